/- Contracts off the shelf: strings.Index, strings.Count (of one byte), strings.IndexByte, strings.CutPrefix. Contract: config.Text is a configuration's text. Contract off the shelf: strings.Split at one byte, where the number of the pieces is known. Plain: a number's digits are read back. Contract: num.reader's closure at the base 10 reads a canonical number. Contract: num.Parse reads a canonical number. Plain: a configuration's text is cut into its five pieces, and each piece's digits are read back. The law ConfigBack, walked: a configuration's text is read back. -/
import Derived.Test.YtdaflnnjfmickaaDoorShf
import Derived.Test.YtdaflnnjfmickaaDoorSb
import Derived.Test.YtdaflnnjfmickaaDoorSl
import Derived.Test.YtdaflnnjfmickaaDoorCIntP
import Derived.Test.YtdaflnnjfmickaaDoorCConf
import Derived.Shelf.Strings.Split
import Derived.Test.YtdaflnnjfmickaaDoorWo
import Derived.Test.YtdaflnnjfmickaaDoorWi
import Derived.Test.YtdaflnnjfmickaaDoorPkEs
import Derived.Test.YtdaflnnjfmickaaDoorExQ
namespace Go.Proofs.YtdaflnnjfmickaaDoor.Ex
open Go Go.RowKit

-- OPEN idxB cntB trimP hasP u8Of
def idxB (s : List UInt8) (c : UInt8) : Int := Lib.indexByte s c
def cntB (s : List UInt8) (c : UInt8) : Int := (Lib.countByte s c : Nat)
def trimP (s p : List UInt8) : List UInt8 := Lib.trimPrefix s p
def hasP (s p : List UInt8) : Bool := Lib.hasPrefix s p
def u8Of (c : Int) : UInt8 := c.toNat.toUInt8
abbrev gS2 : List Ag := [.cell none, .cell none]
def fIdx (ds : List Da) : Option (Bool × AV) :=
  match ds with
  | [.cell (.v (.ys s)), .cell (.v (.ys [c]))] => some (true, .y .i64 (idxB s c))
  | _ => none
def fCnt (ds : List Da) : Option (Bool × AV) :=
  match ds with
  | [.cell (.v (.ys s)), .cell (.v (.ys [c]))] => some (true, .y .i64 (cntB s c))
  | _ => none
def fIby (ds : List Da) : Option (Bool × AV) :=
  match ds with
  | [.cell (.v (.ys s)), .cell (.v (.y .u8 c))] => some (true, .y .i64 (idxB s (u8Of c)))
  | _ => none
def fCut (ds : List Da) : Option (Bool × AV) :=
  match ds with
  | [.cell (.v (.ys s)), .cell (.v (.ys p))] => some (true, .tup [.ys (trimP s p), .yb (hasP s p)])
  | _ => none
theorem two_open {w : World} {a b : AV} {us : List Value} (hd : DaRs w gS2 [.cell (.v a), .cell (.v b)] us) : ∃ u v, us = [u, v] ∧ a.R noM u ∧ b.R noM v := by
  obtain ⟨d0, ds1, u0, us1, e1, rfl, hd1, hd⟩ := hd
  simp only [List.cons.injEq] at e1
  obtain ⟨rfl, rfl⟩ := e1
  obtain ⟨d0, ds1, u1, us1, e1, rfl, hd2, hd⟩ := hd
  simp only [List.cons.injEq] at e1
  obtain ⟨rfl, rfl⟩ := e1
  obtain ⟨_, rfl⟩ := hd
  exact ⟨_, _, rfl, hd1, hd2⟩
theorem smIdx : SmCall Tryd.prog 34 (fun args h => (ctS gS2 fIdx args h).sel) :=
  ctS_hand Tryd.func34 (by kernel_rfl) (by kernel_rfl) (fun ds a us w hF hd _ => by
    unfold fIdx at hF
    split at hF
    case h_2 => cases hF
    rename_i s c
    simp only [Option.some.injEq, Prod.mk.injEq, true_and] at hF
    subst hF
    obtain ⟨u, v, rfl, h1, h2⟩ := two_open hd
    obtain rfl : u = .string ⟨s.toArray⟩ := h1
    obtain rfl : v = .string ⟨[c].toArray⟩ := h2
    exact (Any.strings_Index_one Tryd.lays143 ⟨s.toArray⟩ c w).mono fun e w' ⟨he, hw⟩ => ⟨_, he, fun M => rfl, hw ▸ Below.refl _ _⟩)
theorem smCnt : SmCall Tryd.prog 33 (fun args h => (ctS gS2 fCnt args h).sel) :=
  ctS_hand Tryd.func33 (by kernel_rfl) (by kernel_rfl) (fun ds a us w hF hd _ => by
    unfold fCnt at hF
    split at hF
    case h_2 => cases hF
    rename_i s c
    simp only [Option.some.injEq, Prod.mk.injEq, true_and] at hF
    subst hF
    obtain ⟨u, v, rfl, h1, h2⟩ := two_open hd
    obtain rfl : u = .string ⟨s.toArray⟩ := h1
    obtain rfl : v = .string ⟨[c].toArray⟩ := h2
    exact (Any.strings_Count_one Tryd.lays138 ⟨s.toArray⟩ c w).mono fun e w' ⟨he, hw⟩ => ⟨_, he, fun M => rfl, hw ▸ Below.refl _ _⟩)
theorem smIby : SmCall Tryd.prog 37 (fun args h => (ctS gS2 fIby args h).sel) :=
  ctS_hand Tryd.func37 (by kernel_rfl) (by kernel_rfl) (fun ds a us w hF hd _ => by
    unfold fIby at hF
    split at hF
    case h_2 => cases hF
    rename_i s c
    simp only [Option.some.injEq, Prod.mk.injEq, true_and] at hF
    subst hF
    obtain ⟨u, v, rfl, h1, h2⟩ := two_open hd
    obtain rfl : u = .string ⟨s.toArray⟩ := h1
    obtain rfl : v = .int .u8 c := h2
    exact (Any.strings_IndexByte Tryd.lays137 ⟨s.toArray⟩ c w).mono fun e w' ⟨he, hw⟩ => ⟨_, he, fun M => rfl, hw ▸ Below.refl _ _⟩)
theorem smCut : SmCall Tryd.prog 10 (fun args h => (ctS gS2 fCut args h).sel) :=
  ctS_hand Tryd.func10 (by kernel_rfl) (by kernel_rfl) (fun ds a us w hF hd _ => by
    unfold fCut at hF
    split at hF
    case h_2 => cases hF
    rename_i s p
    simp only [Option.some.injEq, Prod.mk.injEq, true_and] at hF
    subst hF
    obtain ⟨u, v, rfl, h1, h2⟩ := two_open hd
    obtain rfl : u = .string ⟨s.toArray⟩ := h1
    obtain rfl : v = .string ⟨p.toArray⟩ := h2
    exact (Any.strings_CutPrefix Tryd.lays103 ⟨s.toArray⟩ ⟨p.toArray⟩ w).mono fun e w' ⟨he, hw⟩ => ⟨_, he, fun M => by simp only [AV.R]; exact ⟨_, ⟨_, _, rfl, ⟨_, _, rfl, rfl, rfl⟩, rfl⟩, rfl⟩, hw ▸ Below.refl _ _⟩)
/-- The same where the prefix is there. -/
def fCutT (ds : List Da) : Option (Bool × AV) :=
  match ds with
  | [.cell (.v (.ys s)), .cell (.v (.ys p))] => some (hasP s p, .tup [.ys (trimP s p), .b true])
  | _ => none
theorem smCutT : SmCall Tryd.prog 10 (fun args h => (ctS gS2 fCutT args h).sel) :=
  ctS_hand Tryd.func10 (by kernel_rfl) (by kernel_rfl) (fun ds a us w hF hd _ => by
    unfold fCutT at hF
    split at hF
    case h_2 => cases hF
    rename_i s p
    simp only [Option.some.injEq, Prod.mk.injEq] at hF
    obtain ⟨hp, rfl⟩ := hF
    obtain ⟨u, v, rfl, h1, h2⟩ := two_open hd
    obtain rfl : u = .string ⟨s.toArray⟩ := h1
    obtain rfl : v = .string ⟨p.toArray⟩ := h2
    have hp : Lib.hasPrefix s p = true := hp
    refine (Any.strings_CutPrefix Tryd.lays103 ⟨s.toArray⟩ ⟨p.toArray⟩ w).mono fun e w' ⟨he, hw⟩ => ⟨_, he, fun M => ?_, hw ▸ Below.refl _ _⟩
    simp only [AV.R]
    exact ⟨_, ⟨_, _, rfl, ⟨_, _, by rw [show Lib.hasPrefix (⟨s.toArray⟩ : ByteArray).data.toList (⟨p.toArray⟩ : ByteArray).data.toList = true from hp]; rfl, rfl, rfl⟩, rfl⟩, rfl⟩)
end Go.Proofs.YtdaflnnjfmickaaDoor.Ex
namespace Go.Proofs.YtdaflnnjfmickaaDoor.Ex
open Go

-- OPEN textC
def wordsL : List UInt8 := [115, 108, 111, 116, 115, 32, 116, 104, 114, 101, 97, 100, 115, 32, 102, 97, 110, 32, 108, 105, 109, 98, 111, 32, 112, 97, 116, 105, 101, 110, 99, 101]
abbrev aoWords : AO := .cells [.s [115, 108, 111, 116, 115], .s [116, 104, 114, 101, 97, 100, 115], .s [102, 97, 110], .s [108, 105, 109, 98, 111], .s [112, 97, 116, 105, 101, 110, 99, 101]] 9 none
set_option maxRecDepth 100000 in
theorem words_eq : isSl 0 5 5 false [.s [115, 108, 111, 116, 115], .s [116, 104, 114, 101, 97, 100, 115], .s [102, 97, 110], .s [108, 105, 109, 98, 111], .s [112, 97, 116, 105, 101, 110, 99, 101]] 9 none (callS Tryd.prog noSm 1000 8 [.s wordsL]) = ((0 : Nat) = 0 ∧ (5 : Nat) = 5 ∧ (5 : Nat) = 5 ∧ false = false ∧ some aoWords = some aoWords) := by kernel_rfl
set_option maxRecDepth 100000 in
theorem smWords (hm : Tryd.prog.follows .mixedOrders = true) : SmCall Tryd.prog 8 (closG wordsL 0 5 5 false aoWords) :=
  sm_closed hm noSm_ok (kernel_go words_eq ⟨rfl, rfl, rfl, rfl, rfl⟩) rfl
/-- What a configuration's text is. -/
def textC (s t f l p : Int) : List UInt8 := joinL [[115, 108, 111, 116, 115] ++ 61 :: fmI s, [116, 104, 114, 101, 97, 100, 115] ++ 61 :: fmI t, [102, 97, 110] ++ 61 :: fmI f, [108, 105, 109, 98, 111] ++ 61 :: fmI l, [112, 97, 116, 105, 101, 110, 99, 101] ++ 61 :: fmI p] [32]
def fRightT (ds : List Da) : Option (Bool × AV) :=
  match ds with
  | [.agg [.v (.y .i64 s), .v (.y .i64 t), .v (.y .i64 f), .v (.y .i64 l), .v (.y .i64 p)]] => some (rightC s t f l p, .b true)
  | _ => none
def fRightF (ds : List Da) : Option (Bool × AV) :=
  match ds with
  | [.agg [.v (.y .i64 s), .v (.y .i64 t), .v (.y .i64 f), .v (.y .i64 l), .v (.y .i64 p)]] => some (yNot (rightC s t f l p), .b false)
  | _ => none
def lTxt (fR : List Da → Option (Bool × AV)) : List (Nat × Sm) := [(12, .ct (ctS gConf fR)), (8, .call (closG wordsL 0 5 5 false aoWords)), (14, .ct (ctS gI1 fInt)), (15, .ct (ctS [.cell cStr, .cell none] fJoin))]
def goalTxtT : Prop := ∀ (s t f l p : Int), rightC s t f l p = true → wxF Tryd.prog (smL (lTxt fRightT)) (fun _ => none) 1000 5 (canA gConf (dConf s t f l p) []).1 (heapOf (canA gConf (dConf s t f l p) []).2) (fun v _ => cmpC (.ys (textC s t f l p)) v)
def goalTxtF : Prop := ∀ (s t f l p : Int), rightC s t f l p = false → wxF Tryd.prog (smL (lTxt fRightF)) (fun _ => none) 1000 5 (canA gConf (dConf s t f l p) []).1 (heapOf (canA gConf (dConf s t f l p) []).2) (fun v _ => cmpC (.ys []) v)
set_option maxRecDepth 100000 in
theorem goalTxtT_eq : goalTxtT = (∀ (s t f l p : Int), rightC s t f l p = true → (rightC s t f l p = true → (inI s = true → (yNle (yNadd (yLen [(61 : UInt8)]) (yLen (fmI s))) (nat_lit 9223372036854775807) = true → (yNle (yNadd (yLen [(115 : UInt8), (108 : UInt8), (111 : UInt8), (116 : UInt8), (115 : UInt8)]) (yLen (yCat [(61 : UInt8)] (fmI s)))) (nat_lit 9223372036854775807) = true → (inI t = true → (yNle (yNadd (yLen [(61 : UInt8)]) (yLen (fmI t))) (nat_lit 9223372036854775807) = true → (yNle (yNadd (yLen [(116 : UInt8), (104 : UInt8), (114 : UInt8), (101 : UInt8), (97 : UInt8), (100 : UInt8), (115 : UInt8)]) (yLen (yCat [(61 : UInt8)] (fmI t)))) (nat_lit 9223372036854775807) = true → (inI f = true → (yNle (yNadd (yLen [(61 : UInt8)]) (yLen (fmI f))) (nat_lit 9223372036854775807) = true → (yNle (yNadd (yLen [(102 : UInt8), (97 : UInt8), (110 : UInt8)]) (yLen (yCat [(61 : UInt8)] (fmI f)))) (nat_lit 9223372036854775807) = true → (inI l = true → (yNle (yNadd (yLen [(61 : UInt8)]) (yLen (fmI l))) (nat_lit 9223372036854775807) = true → (yNle (yNadd (yLen [(108 : UInt8), (105 : UInt8), (109 : UInt8), (98 : UInt8), (111 : UInt8)]) (yLen (yCat [(61 : UInt8)] (fmI l)))) (nat_lit 9223372036854775807) = true → (inI p = true → (yNle (yNadd (yLen [(61 : UInt8)]) (yLen (fmI p))) (nat_lit 9223372036854775807) = true → (yNle (yNadd (yLen [(112 : UInt8), (97 : UInt8), (116 : UInt8), (105 : UInt8), (101 : UInt8), (110 : UInt8), (99 : UInt8), (101 : UInt8)]) (yLen (yCat [(61 : UInt8)] (fmI p)))) (nat_lit 9223372036854775807) = true → (joinB [yCat [(115 : UInt8), (108 : UInt8), (111 : UInt8), (116 : UInt8), (115 : UInt8)] (yCat [(61 : UInt8)] (fmI s)), yCat [(116 : UInt8), (104 : UInt8), (114 : UInt8), (101 : UInt8), (97 : UInt8), (100 : UInt8), (115 : UInt8)] (yCat [(61 : UInt8)] (fmI t)), yCat [(102 : UInt8), (97 : UInt8), (110 : UInt8)] (yCat [(61 : UInt8)] (fmI f)), yCat [(108 : UInt8), (105 : UInt8), (109 : UInt8), (98 : UInt8), (111 : UInt8)] (yCat [(61 : UInt8)] (fmI l)), yCat [(112 : UInt8), (97 : UInt8), (116 : UInt8), (105 : UInt8), (101 : UInt8), (110 : UInt8), (99 : UInt8), (101 : UInt8)] (yCat [(61 : UInt8)] (fmI p))] [(32 : UInt8)] = true → textC s t f l p = joinL [yCat [(115 : UInt8), (108 : UInt8), (111 : UInt8), (116 : UInt8), (115 : UInt8)] (yCat [(61 : UInt8)] (fmI s)), yCat [(116 : UInt8), (104 : UInt8), (114 : UInt8), (101 : UInt8), (97 : UInt8), (100 : UInt8), (115 : UInt8)] (yCat [(61 : UInt8)] (fmI t)), yCat [(102 : UInt8), (97 : UInt8), (110 : UInt8)] (yCat [(61 : UInt8)] (fmI f)), yCat [(108 : UInt8), (105 : UInt8), (109 : UInt8), (98 : UInt8), (111 : UInt8)] (yCat [(61 : UInt8)] (fmI l)), yCat [(112 : UInt8), (97 : UInt8), (116 : UInt8), (105 : UInt8), (101 : UInt8), (110 : UInt8), (99 : UInt8), (101 : UInt8)] (yCat [(61 : UInt8)] (fmI p))] [(32 : UInt8)]) ∧ (joinB [yCat [(115 : UInt8), (108 : UInt8), (111 : UInt8), (116 : UInt8), (115 : UInt8)] (yCat [(61 : UInt8)] (fmI s)), yCat [(116 : UInt8), (104 : UInt8), (114 : UInt8), (101 : UInt8), (97 : UInt8), (100 : UInt8), (115 : UInt8)] (yCat [(61 : UInt8)] (fmI t)), yCat [(102 : UInt8), (97 : UInt8), (110 : UInt8)] (yCat [(61 : UInt8)] (fmI f)), yCat [(108 : UInt8), (105 : UInt8), (109 : UInt8), (98 : UInt8), (111 : UInt8)] (yCat [(61 : UInt8)] (fmI l)), yCat [(112 : UInt8), (97 : UInt8), (116 : UInt8), (105 : UInt8), (101 : UInt8), (110 : UInt8), (99 : UInt8), (101 : UInt8)] (yCat [(61 : UInt8)] (fmI p))] [(32 : UInt8)] = false → False)) ∧ (yNle (yNadd (yLen [(112 : UInt8), (97 : UInt8), (116 : UInt8), (105 : UInt8), (101 : UInt8), (110 : UInt8), (99 : UInt8), (101 : UInt8)]) (yLen (yCat [(61 : UInt8)] (fmI p)))) (nat_lit 9223372036854775807) = false → False)) ∧ (yNle (yNadd (yLen [(61 : UInt8)]) (yLen (fmI p))) (nat_lit 9223372036854775807) = false → False)) ∧ (inI p = false → False)) ∧ (yNle (yNadd (yLen [(108 : UInt8), (105 : UInt8), (109 : UInt8), (98 : UInt8), (111 : UInt8)]) (yLen (yCat [(61 : UInt8)] (fmI l)))) (nat_lit 9223372036854775807) = false → False)) ∧ (yNle (yNadd (yLen [(61 : UInt8)]) (yLen (fmI l))) (nat_lit 9223372036854775807) = false → False)) ∧ (inI l = false → False)) ∧ (yNle (yNadd (yLen [(102 : UInt8), (97 : UInt8), (110 : UInt8)]) (yLen (yCat [(61 : UInt8)] (fmI f)))) (nat_lit 9223372036854775807) = false → False)) ∧ (yNle (yNadd (yLen [(61 : UInt8)]) (yLen (fmI f))) (nat_lit 9223372036854775807) = false → False)) ∧ (inI f = false → False)) ∧ (yNle (yNadd (yLen [(116 : UInt8), (104 : UInt8), (114 : UInt8), (101 : UInt8), (97 : UInt8), (100 : UInt8), (115 : UInt8)]) (yLen (yCat [(61 : UInt8)] (fmI t)))) (nat_lit 9223372036854775807) = false → False)) ∧ (yNle (yNadd (yLen [(61 : UInt8)]) (yLen (fmI t))) (nat_lit 9223372036854775807) = false → False)) ∧ (inI t = false → False)) ∧ (yNle (yNadd (yLen [(115 : UInt8), (108 : UInt8), (111 : UInt8), (116 : UInt8), (115 : UInt8)]) (yLen (yCat [(61 : UInt8)] (fmI s)))) (nat_lit 9223372036854775807) = false → False)) ∧ (yNle (yNadd (yLen [(61 : UInt8)]) (yLen (fmI s))) (nat_lit 9223372036854775807) = false → False)) ∧ (inI s = false → False)) ∧ (rightC s t f l p = false → False)) := by kernel_rfl
set_option maxRecDepth 100000 in
theorem goalTxtF_eq : goalTxtF = (∀ (s t f l p : Int), rightC s t f l p = false → (yNot (rightC s t f l p) = true → ([] : List UInt8) = []) ∧ (yNot (rightC s t f l p) = false → False)) := by kernel_rfl
theorem tLen_cat (a b : List UInt8) : yLen (yCat a b) = yLen a + yLen b := List.length_append
theorem tLen_cons (a : UInt8) (b : List UInt8) : yLen (a :: b) = yLen b + 1 := rfl
theorem tLen_nil : yLen [] = 0 := rfl
theorem fmI_len (n : Int) : yLen (fmI n) ≤ 21 := by
  unfold fmI
  have h1 := fm_len n
  have h2 := fm_len (0 - n)
  cases yLt n 0 with
  | true => show yLen (fm (0 - n)) + 1 ≤ 21; omega
  | false => show yLen (fm n) ≤ 21; omega
theorem joinL5 (a b c d e : List UInt8) : joinL [a, b, c, d, e] [32] = a ++ 32 :: b ++ 32 :: c ++ 32 :: d ++ 32 :: e := by simp [joinL, Lib.join_cons, Lib.joinTail]
theorem join5 (a b c d e : List UInt8) (h1 : yLen a ≤ 100) (h2 : yLen b ≤ 100) (h3 : yLen c ≤ 100) (h4 : yLen d ≤ 100) (h5 : yLen e ≤ 100) : joinB [a, b, c, d, e] [32] = true := by
  unfold yLen at *
  unfold joinB; rw [joinL5]; simp; omega
theorem conf_in {s t f l p : Int} (h : rightC s t f l p = true) : inI s = true ∧ inI t = true ∧ inI f = true ∧ inI l = true ∧ inI p = true := by
  rw [rightC_iff] at h
  simp only [inI, yAnd_t, yLe_t, yLt_t]
  omega
set_option maxRecDepth 100000 in
theorem goalTxtT_ok : goalTxtT := by
  refine kernel_go goalTxtT_eq ?_
  intro s t f l p h
  obtain ⟨i1, i2, i3, i4, i5⟩ := conf_in h
  have l1 := fmI_len s
  have l2 := fmI_len t
  have l3 := fmI_len f
  have l4 := fmI_len l
  have l5 := fmI_len p
  rw [join5 _ _ _ _ _ (by simp only [tLen_cat, tLen_cons, tLen_nil]; omega) (by simp only [tLen_cat, tLen_cons, tLen_nil]; omega) (by simp only [tLen_cat, tLen_cons, tLen_nil]; omega) (by simp only [tLen_cat, tLen_cons, tLen_nil]; omega) (by simp only [tLen_cat, tLen_cons, tLen_nil]; omega)]
  simp only [h, i1, i2, i3, i4, i5, tLen_cat, tLen_cons, tLen_nil, yNot_t, yNot_f, yEq_t, yEq_f, yAnd_t, yAnd_f, yOr_t, yOr_f, yIff_t, yIff_f, yLt_t, yLt_f, yLe_t, yLe_f, yIn_t, yIn_f, yNlt_t, yNlt_f, yNle_t, yNle_f, yNeq_t, yNeq_f, yGrow_t, yGrow_f, yInt_e, yNat_e, yNadd_e, yNsub_e, yAdd_e, ySub_e, yMul_e, yCol_int, yCol_bool, true_and, and_true, Nat.zero_add, Nat.add_zero, Nat.le_refl, forall_const, true_implies, Bool.true_eq_false, Bool.false_eq_true, false_implies]
  repeat' (first | apply And.intro | intro _)
  all_goals first | omega | rfl | (trace_state; fail)
set_option maxRecDepth 100000 in
theorem goalTxtF_ok : goalTxtF := by
  refine kernel_go goalTxtF_eq ?_
  intro s t f l p h
  rw [h]
  exact ⟨fun _ => rfl, fun h => by cases h⟩
def fTxt (ds : List Da) : Option (Bool × AV) :=
  match ds with
  | [.agg [.v (.y .i64 s), .v (.y .i64 t), .v (.y .i64 f), .v (.y .i64 l), .v (.y .i64 p)]] => some (rightC s t f l p, .ys (textC s t f l p))
  | _ => none
def fTxt0 (ds : List Da) : Option (Bool × AV) :=
  match ds with
  | [.agg [.v (.y .i64 s), .v (.y .i64 t), .v (.y .i64 f), .v (.y .i64 l), .v (.y .i64 p)]] => some (yNot (rightC s t f l p), .ys [])
  | _ => none
theorem smRightT (hm : Tryd.prog.follows .mixedOrders = true) : SmCall Tryd.prog 12 (fun args h => (ctS gConf fRightT args h).sel) :=
  ctS_weak (smRight hm) (fun ds a e => by
    unfold fRightT at e
    split at e
    · rename_i s t f l p
      simp only [Option.some.injEq, Prod.mk.injEq] at e
      obtain ⟨h1, rfl⟩ := e
      exact ⟨_, rfl, fun M u r => by rw [h1] at r; exact r⟩
    · cases e)
theorem smRightF (hm : Tryd.prog.follows .mixedOrders = true) : SmCall Tryd.prog 12 (fun args h => (ctS gConf fRightF args h).sel) :=
  ctS_weak (smRight hm) (fun ds a e => by
    unfold fRightF at e
    split at e
    · rename_i s t f l p
      simp only [Option.some.injEq, Prod.mk.injEq] at e
      obtain ⟨h1, rfl⟩ := e
      have h2 : rightC s t f l p = false := by simpa [yNot] using h1
      exact ⟨_, rfl, fun M u r => by rw [h2] at r; exact r⟩
    · cases e)
theorem lFm_ok (hm : Tryd.prog.follows .mixedOrders = true) : SmOK Tryd.prog (smL lFm) := smL_ok ⟨smForm hm, trivial⟩
theorem lTxtT_ok (hm : Tryd.prog.follows .mixedOrders = true) : SmOK Tryd.prog (smL (lTxt fRightT)) := smL_ok ⟨smRightT hm, smWords hm, smInt hm (lFm_ok hm) @goalInt_ok, smJoin, trivial⟩
theorem lTxtF_ok (hm : Tryd.prog.follows .mixedOrders = true) : SmOK Tryd.prog (smL (lTxt fRightF)) := smL_ok ⟨smRightF hm, smWords hm, smInt hm (lFm_ok hm) @goalInt_ok, smJoin, trivial⟩
set_option maxRecDepth 100000 in
theorem smTxt (hm : Tryd.prog.follows .mixedOrders = true) : SmCall Tryd.prog 5 (fun args h => (ctS gConf fTxt args h).sel) :=
  ctS_ok hm (lTxtT_ok hm) (by decide) (fun ds a e => by
    unfold fTxt at e
    split at e
    · rename_i s t f l p
      simp only [Option.some.injEq, Prod.mk.injEq] at e
      obtain ⟨h1, rfl⟩ := e
      refine ⟨fun _ => none, 1000, ?_⟩
      have h2 := @goalTxtT_ok
      unfold goalTxtT at h2
      exact h2 s t f l p h1
    · cases e)
set_option maxRecDepth 100000 in
theorem smTxt0 (hm : Tryd.prog.follows .mixedOrders = true) : SmCall Tryd.prog 5 (fun args h => (ctS gConf fTxt0 args h).sel) :=
  ctS_ok hm (lTxtF_ok hm) (by decide) (fun ds a e => by
    unfold fTxt0 at e
    split at e
    · rename_i s t f l p
      simp only [Option.some.injEq, Prod.mk.injEq] at e
      obtain ⟨h1, rfl⟩ := e
      have h2 : rightC s t f l p = false := by simpa [yNot] using h1
      refine ⟨fun _ => none, 1000, ?_⟩
      have h3 := @goalTxtF_ok
      unfold goalTxtF at h3
      exact h3 s t f l p h2
    · cases e)
end Go.Proofs.YtdaflnnjfmickaaDoor.Ex
namespace Go.Proofs.YtdaflnnjfmickaaDoor.Ex
open Go Go.RowKit

-- OPEN spS hdS tlS okSp
/-- A contract that hands back a new slice of scalars that need not be literals. -/
def ctN (gs : List Ag) (F : List Da → Option (Bool × List AV)) (et : TypeId) (args : List AV) (h : AH) : T (AV × AH) :=
  (rdA h gs args).bind fun ds => match F ds with
    | some (b, c) => match newA h (.cells c et none) (fun id => .sl id 0 c.length c.length false) with
      | some r => .must b (.ret r)
      | none => .no
    | none => .no
theorem ctN_hand {P : Program} {f : FuncId} {fn : Func} {gs : List Ag} {F : List Da → Option (Bool × List AV)} {et : TypeId} (hf : P.funcs[f]? = some fn) (hok : okFn fn = true) (hb : fn.body.isSome = true)
    (hc : ∀ ds c us w, F ds = some (true, c) → DaRs w gs ds us → GW w → Calls P f us.toArray w fun e w' => ∃ vs, e = .returned (.slice (some ⟨w.heap.size, 0, none⟩) c.length c.length) ∧ (∀ M, AV.RL M c vs) ∧ w' = w.alloc (.cells vs.toArray et)) :
    SmCall P f (fun args h => (ctN gs F et args h).sel) := by
  intro args h v h' hg
  obtain ⟨ds, e1, e⟩ := T.sel_bind_some hg
  split at e
  case h_2 => cases e
  rename_i b c hF
  split at e
  case h_2 => cases e
  rename_i rr0 hnew
  obtain ⟨rfl, e⟩ := T.sel_must e
  have e := T.sel_ret e
  subst e
  unfold newA at hnew
  split at hnew
  case h_2 => cases hnew
  rename_i h2 hn
  simp only [Option.some.injEq, Prod.mk.injEq] at hnew
  obtain ⟨rfl, rfl⟩ := hnew
  obtain ⟨hnx, hbs, hwl⟩ := AH.new_nx hn
  have hgt := AH.get_new hn
  refine ⟨⟨by omega, ⟨by omega, hbs, fun x hx => by rw [hwl]; exact hx, fun x hx hy hn2 => ?_, fun x hx => ?_⟩⟩, fun M us w r R ra rr fr k => ⟨?_, ?_⟩⟩
  · rw [hgt, if_neg (by omega)]
  · rw [hgt] at hx
    by_cases hid : x = h.nx
    · right; omega
    · left; simpa [hid] using hx
  · have hnn : ¬ (fn.name = "runtime.NumGoroutine") := by simpa [okFn] using hok
    cases hbb : fn.body with
    | none => rw [hbb] at hb; cases hb
    | some c => simp [callFunc, hf, hnn, hbb]
  · have hd := rdA_ok e1 ra rr
    exact (callsIn_wide (n := 0)).2 ((hc ds c us w hF hd rr.gw).mono fun e w' ⟨vs, he, hr, hw⟩ => by
      subst he
      subst hw
      have ho2 : ObR M c.length (.cells c et none) (.cells vs.toArray et) := ⟨vs, [], hr _, by rw [List.append_nil], rfl⟩
      obtain ⟨q1, q2, q3⟩ := new_ok rr hn (fr h.nx (Nat.le_refl _) (by omega)) ho2
      exact k _ _ _ (by simp only [AV.R]; exact ⟨w.heap.size, c.length, by simp [updM], rfl⟩) q1 q2 q3)
def spS (s : List UInt8) (c : UInt8) : List (List UInt8) := Lib.splitK [c] 0 (Lib.count s [c]) s
def hdS (l : List (List UInt8)) : List UInt8 := l.headD []
def tlS (l : List (List UInt8)) : List (List UInt8) := l.tail
def pick : Nat → List (List UInt8) → List AV
  | 0, _ => []
  | k + 1, l => .ys (hdS l) :: pick k (tlS l)
theorem pick_eq : ∀ (l : List (List UInt8)), pick l.length l = l.map AV.ys
  | [] => rfl
  | a :: l => by
    show AV.ys a :: pick l.length l = _
    rw [pick_eq l]; rfl
/-- The text is short, and has so many pieces. -/
def okSp (k : Nat) (s : List UInt8) (c : UInt8) : Bool := Nat.blt s.length 4000000000 && Nat.beq (s.count c + 1) k
def fSplit (k : Nat) (ds : List Da) : Option (Bool × List AV) :=
  match ds with
  | [.cell (.v (.ys s)), .cell (.v (.ys [c]))] => some (okSp k s c, pick k (spS s c))
  | _ => none
theorem RL_str (M : Mp) : ∀ (ps : List ByteArray), AV.RL M (ps.map fun p => AV.ys p.data.toList) (ps.map Value.string)
  | [] => rfl
  | p :: ps => ⟨.string p, ps.map Value.string, by show Value.string p = .string ⟨p.data.toList.toArray⟩; cases p; simp, RL_str M ps, rfl⟩
theorem genSplitOne (s : ByteArray) (c : UInt8) (N : Nat) (w : World) (hs : s.size < 4294967281) (hN : N = Lib.countB s ⟨[c].toArray⟩ + 1) :
    Calls Tryd.prog 21 #[.string s, .string ⟨[c].toArray⟩, .int .i64 0, .int .i64 (-1)] w fun e w' =>
      e = .returned (.slice (some ⟨w.heap.size, 0, none⟩) (Lib.splitB ⟨[c].toArray⟩ 0 (N - 1) s).length N) ∧ w' = w.alloc (.cells (Lib.cellsOf (Lib.splitB ⟨[c].toArray⟩ 0 (N - 1) s) N) 9) :=
  Any.strings_genSplit_core { Tryd.lays146 with } (by kernel_rfl) s ⟨[c].toArray⟩ 0 (-1) N w hs (by decide : 1 ≤ 1) (Nat.zero_le _)
    (fun x cs hx => by rw [show Lib.indexB x ⟨[c].toArray⟩ = Lib.indexByte x.data.toList c from Lib.index_one _ c]; exact Any.strings_Index_one Tryd.lays143 x c _)
    (by
      have := Any.strings_Count_one Tryd.lays138 s c w
      rw [show Lib.countB s ⟨[c].toArray⟩ = Lib.countByte s.data.toList c from Lib.count_one c _]
      exact this) (by decide) (by decide)
    (by
      have hle := Lib.countB_le ⟨[c].toArray⟩ (by decide : 1 ≤ 1) s.size s (Nat.le_refl _)
      rw [if_pos (by decide)]; omega)
set_option maxHeartbeats 1000000 in
theorem splitOne (s : ByteArray) (c : UInt8) (w : World) (hs : s.size < 4294967281) :
    Calls Tryd.prog 9 #[.string s, .string ⟨[c].toArray⟩] w fun e w' =>
      e = .returned (.slice (some ⟨w.heap.size, 0, none⟩) (Lib.countB s ⟨[c].toArray⟩ + 1) (Lib.countB s ⟨[c].toArray⟩ + 1)) ∧ w' = w.alloc (.cells ((Lib.splitB ⟨[c].toArray⟩ 0 (Lib.countB s ⟨[c].toArray⟩) s).map Value.string).toArray 9) := by
  have hlen := Lib.splitB_all ⟨[c].toArray⟩ (by decide : 1 ≤ 1) 0 _ s rfl
  have c0 := genSplitOne s c _ w hs rfl
  rw [Nat.add_sub_cancel, hlen] at c0
  have e2 : Lib.cellsOf (Lib.splitB ⟨[c].toArray⟩ 0 (Lib.countB s ⟨[c].toArray⟩) s) (Lib.countB s ⟨[c].toArray⟩ + 1) = ((Lib.splitB ⟨[c].toArray⟩ 0 (Lib.countB s ⟨[c].toArray⟩) s).map Value.string).toArray := by rw [← hlen]; exact Lib.cellsOf_full _
  rw [e2] at c0
  have L := Tryd.lays146
  have t3 := L.t3; have t9 := L.t9; have t31 := L.t31
  have a3 := L.a3; have a9 := L.a9; have a31 := L.a31
  have z3 := L.z3; have v3 := L.v3; have z9 := L.z9; have v9 := L.v9; have z31 := L.z31; have v31 := L.v31
  have e221 : ∀ args w, (callFunc (Tryd.lays146_ren.f 221) args).run Tryd.prog w = .ok (.enter (Tryd.lays146_ren.f 221) args) w := enters_of L.f221 (by kernel_rfl) rfl
  show Calls Tryd.prog (Tryd.lays146_ren.f 146) _ _ _
  go_enter L.f146, Body.n146_ntmps Tryd.lays146_ren
  go_wp2_with (go_at_fn (Tryd.lays146_ren.f 221); refine Calls.mono c0 ?_; rintro e w' ⟨rfl, hw⟩; rw [hw])
  go_ret
  exact ⟨rfl, rfl⟩

theorem smSplit (k : Nat) : SmCall Tryd.prog 9 (fun args h => (ctN gS2 (fSplit k) 9 args h).sel) :=
  ctN_hand Tryd.func9 (by kernel_rfl) (by kernel_rfl) (fun ds a us w hF hd _ => by
    unfold fSplit at hF
    split at hF
    case h_2 => cases hF
    rename_i s c
    simp only [Option.some.injEq, Prod.mk.injEq] at hF
    obtain ⟨hk, rfl⟩ := hF
    obtain ⟨u, v, rfl, h1, h2⟩ := two_open hd
    obtain rfl : u = .string ⟨s.toArray⟩ := h1
    obtain rfl : v = .string ⟨[c].toArray⟩ := h2
    simp only [okSp, Bool.and_eq_true, Nat.blt_eq, Nat.beq_eq] at hk
    obtain ⟨hlen, rfl⟩ := hk
    have hcB : Lib.countB ⟨s.toArray⟩ ⟨[c].toArray⟩ = s.count c := by show Lib.count s [c] = _; exact Lib.count_one c s
    have hsp := Lib.splitB_data ⟨[c].toArray⟩ 0 (s.count c) ⟨s.toArray⟩
    have hl := Lib.splitB_all ⟨[c].toArray⟩ (by decide : 1 ≤ 1) 0 _ ⟨s.toArray⟩ hcB
    have hsS : spS s c = (Lib.splitB ⟨[c].toArray⟩ 0 (s.count c) ⟨s.toArray⟩).map (·.data.toList) := by
      rw [hsp]; unfold spS; rw [Lib.count_one]
    have hpk : pick (s.count c + 1) (spS s c) = (Lib.splitB ⟨[c].toArray⟩ 0 (s.count c) ⟨s.toArray⟩).map fun p => AV.ys p.data.toList := by
      have e := pick_eq (spS s c)
      rw [hsS, List.length_map, hl, List.map_map] at e
      rw [hsS]; exact e
    refine (splitOne ⟨s.toArray⟩ c w (by show s.length < _; omega)).mono fun e w' ⟨he, hw⟩ => ⟨(Lib.splitB ⟨[c].toArray⟩ 0 (s.count c) ⟨s.toArray⟩).map Value.string, ?_, fun M => by rw [hpk]; exact RL_str M _, ?_⟩
    · rw [he, hpk, List.length_map, hl]
      show Ending.returned (.slice _ (Lib.countB ⟨s.toArray⟩ ⟨[c].toArray⟩ + 1) (Lib.countB ⟨s.toArray⟩ ⟨[c].toArray⟩ + 1)) = _
      rw [hcB]
    · rw [hw]
      show w.alloc (.cells ((Lib.splitB ⟨[c].toArray⟩ 0 (Lib.countB ⟨s.toArray⟩ ⟨[c].toArray⟩) ⟨s.toArray⟩).map Value.string).toArray _) = _
      rw [hcB])
end Go.Proofs.YtdaflnnjfmickaaDoor.Ex
namespace Go.Proofs.YtdaflnnjfmickaaDoor.Ex
open Go

def dcL (l : List UInt8) (a : Int) : Int := l.foldl (fun a d => a * 10 + ((d.toNat : Int) - 48)) a
theorem dgU_val {d : Int} (h0 : 0 ≤ d) (h1 : d < 10) : ((dgU d).toNat : Int) = 48 + d := by
  rcases ten h0 h1 with rfl | rfl | rfl | rfl | rfl | rfl | rfl | rfl | rfl | rfl <;> rfl
theorem dcL_fmF : ∀ (k : Nat) (n : Int) (acc : List UInt8), 0 ≤ n → n < 10 ^ k → 1 ≤ k → dcL (fmF k n acc) 0 = dcL acc n
  | 0, _, _, _, _, h => by omega
  | k + 1, n, acc, h0, h1, _ => by
    have hd := dgU_val (d := n % 10) (by omega) (by omega)
    unfold fmF
    by_cases e : n / 10 = 0
    · rw [decide_eq_true e, cond_true]
      show dcL acc (0 * 10 + (((dgU (n % 10)).toNat : Int) - 48)) = _
      rw [hd]; congr 1; omega
    · rw [decide_eq_false e, cond_false]
      have hk : 1 ≤ k := by
        cases k with
        | zero => exfalso; apply e; have : n < 10 := h1; omega
        | succ k => omega
      have hp : (10 : Int) ^ (k + 1) = 10 ^ k * 10 := Int.pow_succ 10 k
      rw [dcL_fmF k (n / 10) _ (by omega) (by rw [hp] at h1; omega) hk]
      show dcL acc (n / 10 * 10 + (((dgU (n % 10)).toNat : Int) - 48)) = _
      rw [hd]; congr 1; omega
theorem dcL_fm {n : Int} (h0 : 0 ≤ n) (h1 : n < 10 ^ 20) : dcL (fm n) 0 = n := dcL_fmF 20 n [] h0 h1 (by omega)
/-- Digits all, and none ahead that is zero. -/
def isD (b : UInt8) : Prop := 48 ≤ b.toNat ∧ b.toNat ≤ 57
theorem fmF_dig : ∀ (k : Nat) (n : Int) (acc : List UInt8), 0 ≤ n → (∀ b, b ∈ acc → isD b) → ∀ b, b ∈ fmF k n acc → isD b
  | 0, _, acc, _, h, b, hb => h b hb
  | k + 1, n, acc, h0, h, b, hb => by
    have hd := dgU_val (d := n % 10) (by omega) (by omega)
    have hc : ∀ b, b ∈ dgU (n % 10) :: acc → isD b := fun b hb => by
      rcases List.mem_cons.1 hb with rfl | hb
      · unfold isD; omega
      · exact h b hb
    unfold fmF at hb
    by_cases e : n / 10 = 0
    · rw [decide_eq_true e, cond_true] at hb; exact hc b hb
    · rw [decide_eq_false e, cond_false] at hb; exact fmF_dig k (n / 10) _ (by omega) hc b hb
theorem fm_dig {n : Int} (h0 : 0 ≤ n) : ∀ b, b ∈ fm n → isD b := fmF_dig 20 n [] h0 (fun b hb => by cases hb)
theorem fmF_head : ∀ (k : Nat) (n : Int) (acc : List UInt8), 1 ≤ n → n < 10 ^ k → (fmF k n acc).head? ≠ some 48
  | 0, n, acc, h0, h1 => by have : n < 1 := h1; omega
  | k + 1, n, acc, h0, h1 => by
    have hd := dgU_val (d := n % 10) (by omega) (by omega)
    unfold fmF
    by_cases e : n / 10 = 0
    · rw [decide_eq_true e, cond_true]
      intro hh
      simp only [List.head?_cons, Option.some.injEq] at hh
      rw [hh] at hd
      have : ((48 : UInt8).toNat : Int) = 48 := rfl
      omega
    · rw [decide_eq_false e, cond_false]
      have hp : (10 : Int) ^ (k + 1) = 10 ^ k * 10 := Int.pow_succ 10 k
      exact fmF_head k (n / 10) _ (by omega) (by rw [hp] at h1; omega)
theorem fm_head {n : Int} (h0 : 1 ≤ n) (h1 : n < 10 ^ 20) : (fm n).head? ≠ some 48 := fmF_head 20 n [] h0 h1
end Go.Proofs.YtdaflnnjfmickaaDoor.Ex
namespace Go.Proofs.YtdaflnnjfmickaaDoor.Ex
open Go

-- OPEN decI okD prP mP idxB u8Of
/-- The value of the first k digits. -/
def decI (s : List UInt8) (k : Nat) : Int := match k with
  | 0 => 0
  | k + 1 => decI s k * 10 + (yByte s k - 48)
/-- One to eighteen digits, with no zero ahead. -/
def okD (s : List UInt8) : Bool := decide (1 ≤ s.length ∧ s.length ≤ 18 ∧ (∀ i, i < s.length → 48 ≤ yByte s i ∧ yByte s i ≤ 57) ∧ (yByte s 0 = 48 → s.length = 1))
def prP (s : List UInt8) (k : Nat) : Prop := k ≤ s.length
def mP (s : List UInt8) (k : Nat) : Nat := s.length - k
def lPar : List (Nat × Sm) := [(37, .ct (ctS gS2 fIby))]
def annPar (s : List UInt8) (b : Nat) : Option (St → LoopA) :=
  match b with
  | 0 => some fun _ => { ι := Nat, tms := [11, 5, 6], tmU := fun k => [.y .i64 (yInt k), .y .u64 (decI s k), .b false], ids := [], hpU := fun _ => [], del := [], ex := 0, pre := prP s, ms := mP s }
  | _ => none
abbrev wxS (P : Program) (sm : FuncId → Option Sm) (ann : Nat → Option (St → LoopA)) (f : FuncId) (ss : List Sx) (ds : List Dx) (rs : Sx) (r : Dx) (post : List (List Dx)) : Prop :=
  wxF P sm ann 1000 f (canXs nmI ss ds []).1 (heapOf (canXs nmI ss ds []).2)
    (postX (canXs nmI ss ds []).2.length (delX 0 (canXs nmI ss ds []).2 (ptrId (canXs nmI ss ds []).1)) (ptrId (canXs nmI ss ds []).1) (expR (fun j => (canXs nmI ss ds []).2.length + j) (ptrSh ss ds) rs r post))
abbrev sRdr : List Sx := [.sc, .ptr 37 [.sc]]
abbrev rRdr : Sx := .tup [.sc, .sc]
def fRdr (ds : List Dx) : Option (Bool × Dx × List (List Dx)) :=
  match ds with
  | [.v (.ys s), .l [.v (.y .u64 b)]] => some (yAnd (yEq b 10) (okD s), .l [.v (.y .u64 (decI s (yLen s))), .v (.i .i64 0)], [[.v (.y .u64 10)]])
  | _ => none
def goalRdr : Prop := ∀ (s : List UInt8), okD s = true → wxS Tryd.prog (smL lPar) (annPar s) 36 sRdr [.v (.ys s), .l [.v (.y .u64 10)]] rRdr (.l [.v (.y .u64 (decI s (yLen s))), .v (.i .i64 0)]) [[.v (.y .u64 10)]]
set_option maxRecDepth 100000 in
theorem goalRdr_eq : goalRdr = (∀ (s : List UInt8), okD s = true → true = true ∧ (∃ (i0 : Nat), prP s i0 ∧ true = true ∧ yInt i0 = (0 : Int) ∧ decI s i0 = (0 : Int) ∧ false = false ∧ true = true) ∧ ∀ (g : Nat → AV) (i : Nat), prP s i → (yLt (yInt i) (yInt (yLen s)) = true → (yIn (yInt i) (yLen s) = true → (true = true → (yLe (10 : Int) (yWrap IntKind.u64 (idxB [(48 : UInt8), (49 : UInt8), (50 : UInt8), (51 : UInt8), (52 : UInt8), (53 : UInt8), (54 : UInt8), (55 : UInt8), (56 : UInt8), (57 : UInt8), (97 : UInt8), (98 : UInt8), (99 : UInt8), (100 : UInt8), (101 : UInt8), (102 : UInt8)] (u8Of (yByte s (yNat (yInt i)))))) = true → decI s (yLen s) = (0 : Int) ∧ (0 : Int) = (4 : Int) ∧ (10 : Int) = (10 : Int) ∧ true = true) ∧ (yLe (10 : Int) (yWrap IntKind.u64 (idxB [(48 : UInt8), (49 : UInt8), (50 : UInt8), (51 : UInt8), (52 : UInt8), (53 : UInt8), (54 : UInt8), (55 : UInt8), (56 : UInt8), (57 : UInt8), (97 : UInt8), (98 : UInt8), (99 : UInt8), (100 : UInt8), (101 : UInt8), (102 : UInt8)] (u8Of (yByte s (yNat (yInt i)))))) = false → (yEq (10 : Int) (0 : Int) = true → False) ∧ (yEq (10 : Int) (0 : Int) = false → (yLt (yQuo IntKind.u64 (yWrap IntKind.u64 (ySub (18446744073709551615 : Int) (yWrap IntKind.u64 (idxB [(48 : UInt8), (49 : UInt8), (50 : UInt8), (51 : UInt8), (52 : UInt8), (53 : UInt8), (54 : UInt8), (55 : UInt8), (56 : UInt8), (57 : UInt8), (97 : UInt8), (98 : UInt8), (99 : UInt8), (100 : UInt8), (101 : UInt8), (102 : UInt8)] (u8Of (yByte s (yNat (yInt i)))))))) (10 : Int)) (decI s i) = true → true = true ∧ ∃ (i' : Nat), prP s i' ∧ Nat.succ (mP s i') ≤ mP s i ∧ true = true ∧ yInt i' = yWrap IntKind.i64 (yAdd (yInt i) (1 : Int)) ∧ decI s i' = yWrap IntKind.u64 (yAdd (yWrap IntKind.u64 (yMul (decI s i) (10 : Int))) (yWrap IntKind.u64 (idxB [(48 : UInt8), (49 : UInt8), (50 : UInt8), (51 : UInt8), (52 : UInt8), (53 : UInt8), (54 : UInt8), (55 : UInt8), (56 : UInt8), (57 : UInt8), (97 : UInt8), (98 : UInt8), (99 : UInt8), (100 : UInt8), (101 : UInt8), (102 : UInt8)] (u8Of (yByte s (yNat (yInt i))))))) ∧ false = true ∧ true = true) ∧ (yLt (yQuo IntKind.u64 (yWrap IntKind.u64 (ySub (18446744073709551615 : Int) (yWrap IntKind.u64 (idxB [(48 : UInt8), (49 : UInt8), (50 : UInt8), (51 : UInt8), (52 : UInt8), (53 : UInt8), (54 : UInt8), (55 : UInt8), (56 : UInt8), (57 : UInt8), (97 : UInt8), (98 : UInt8), (99 : UInt8), (100 : UInt8), (101 : UInt8), (102 : UInt8)] (u8Of (yByte s (yNat (yInt i)))))))) (10 : Int)) (decI s i) = false → true = true ∧ ∃ (i' : Nat), prP s i' ∧ Nat.succ (mP s i') ≤ mP s i ∧ true = true ∧ yInt i' = yWrap IntKind.i64 (yAdd (yInt i) (1 : Int)) ∧ decI s i' = yWrap IntKind.u64 (yAdd (yWrap IntKind.u64 (yMul (decI s i) (10 : Int))) (yWrap IntKind.u64 (idxB [(48 : UInt8), (49 : UInt8), (50 : UInt8), (51 : UInt8), (52 : UInt8), (53 : UInt8), (54 : UInt8), (55 : UInt8), (56 : UInt8), (57 : UInt8), (97 : UInt8), (98 : UInt8), (99 : UInt8), (100 : UInt8), (101 : UInt8), (102 : UInt8)] (u8Of (yByte s (yNat (yInt i))))))) ∧ false = false ∧ true = true)))) ∧ (true = false → False)) ∧ (yIn (yInt i) (yLen s) = false → False)) ∧ (yLt (yInt i) (yInt (yLen s)) = false → (ySEq s [] = true → decI s (yLen s) = (0 : Int) ∧ (0 : Int) = (4 : Int) ∧ (10 : Int) = (10 : Int) ∧ true = true) ∧ (ySEq s [] = false → (yIn (0 : Int) (yLen s) = true → (yEq (yByte s (nat_lit 0)) (48 : Int) = true → (yLt (1 : Int) (yInt (yLen s)) = true → decI s (yLen s) = (0 : Int) ∧ (0 : Int) = (4 : Int) ∧ (10 : Int) = (10 : Int) ∧ true = true) ∧ (yLt (1 : Int) (yInt (yLen s)) = false → decI s (yLen s) = decI s i ∧ (0 : Int) = (0 : Int) ∧ (10 : Int) = (10 : Int) ∧ true = true)) ∧ (yEq (yByte s (nat_lit 0)) (48 : Int) = false → decI s (yLen s) = decI s i ∧ (0 : Int) = (0 : Int) ∧ (10 : Int) = (10 : Int) ∧ true = true)) ∧ (yIn (0 : Int) (yLen s) = false → False)))) := by kernel_rfl
theorem hex_ix {b : Int} (h0 : 48 ≤ b) (h1 : b ≤ 57) : idxB [48, 49, 50, 51, 52, 53, 54, 55, 56, 57, 97, 98, 99, 100, 101, 102] (u8Of b) = b - 48 := by
  rcases ten (r := b - 48) (by omega) (by omega) with e | e | e | e | e | e | e | e | e | e
  · have e2 : b = 48 := by omega
    subst e2; rfl
  · have e2 : b = 49 := by omega
    subst e2; rfl
  · have e2 : b = 50 := by omega
    subst e2; rfl
  · have e2 : b = 51 := by omega
    subst e2; rfl
  · have e2 : b = 52 := by omega
    subst e2; rfl
  · have e2 : b = 53 := by omega
    subst e2; rfl
  · have e2 : b = 54 := by omega
    subst e2; rfl
  · have e2 : b = 55 := by omega
    subst e2; rfl
  · have e2 : b = 56 := by omega
    subst e2; rfl
  · have e2 : b = 57 := by omega
    subst e2; rfl
theorem decI_bd {s : List UInt8} (h : ∀ i, i < s.length → 48 ≤ yByte s i ∧ yByte s i ≤ 57) : ∀ k, k ≤ s.length → 0 ≤ decI s k ∧ decI s k < 10 ^ k
  | 0, _ => by show (0 : Int) ≤ 0 ∧ (0 : Int) < 1; omega
  | k + 1, hk => by
    have h1 := decI_bd h k (by omega)
    have h2 := h k (by omega)
    have hp : (10 : Int) ^ (k + 1) = 10 ^ k * 10 := Int.pow_succ 10 k
    show 0 ≤ decI s k * 10 + (yByte s k - 48) ∧ decI s k * 10 + (yByte s k - 48) < _
    rw [hp]; omega
theorem pow17 {k : Nat} (h : k ≤ 17) : (10 : Int) ^ k ≤ 100000000000000000 := by
  have : (10 : Nat) ^ k ≤ 10 ^ 17 := Nat.pow_le_pow_right (by decide) h
  have e : ((10 : Nat) ^ k : Nat) = ((10 : Int) ^ k) := by simp
  rw [← e]; exact Int.ofNat_le.2 this
set_option maxRecDepth 100000 in
theorem goalRdr_ok : goalRdr := by
  refine kernel_go goalRdr_eq ?_
  intro s h
  obtain ⟨h1, h2, h3, h4⟩ := of_decide_eq_true h
  refine ⟨rfl, ⟨0, Nat.zero_le _, rfl, rfl, rfl, rfl, rfl⟩, fun _ i hi => ⟨fun hl => ⟨fun hin => ⟨fun _ => ?_, fun h => by cases h⟩, fun hn => ?_⟩, fun hl => ?_⟩⟩
  all_goals have hi : i ≤ s.length := hi
  · have hlt : i < s.length := by simp only [yLt_t, yInt, yLen] at hl; omega
    obtain ⟨a, b⟩ := h3 i hlt
    obtain ⟨d0, d1⟩ := decI_bd h3 i hi
    have d2 := pow17 (k := i) (by omega)
    have e0 : yNat (yInt i) = i := rfl
    rw [e0, hex_ix a b, wrapU64 (n := yByte s i - 48) (by omega) (by omega)]
    refine ⟨fun hh => by simp only [yLe_t] at hh; omega, fun _ => ⟨fun hh => absurd hh (by decide), fun _ => ?_⟩⟩
    have e3 : yWrap .u64 (ySub 18446744073709551615 (yByte s i - 48)) = 18446744073709551615 - (yByte s i - 48) := wrapU64 (by unfold ySub; omega) (by unfold ySub; omega)
    rw [e3]
    have e4 : yQuo .u64 (18446744073709551615 - (yByte s i - 48)) 10 = (18446744073709551615 - (yByte s i - 48)) / 10 := by
      unfold yQuo
      rw [Int.tdiv_eq_ediv_of_nonneg (by omega)]
      exact wrapU64 (by omega) (by omega)
    rw [e4]
    refine ⟨fun hh => by simp only [yLt_t] at hh; omega, fun _ => ⟨rfl, i + 1, hlt, ?_, rfl, ?_, ?_, rfl, rfl⟩⟩
    · show s.length - (i + 1) + 1 ≤ s.length - i; omega
    · exact (wrap64 (n := yAdd (yInt i) 1) (by unfold yAdd yInt; omega) (by unfold yAdd yInt; omega)).symm
    · have e5 : yWrap .u64 (yMul (decI s i) 10) = decI s i * 10 := wrapU64 (by unfold yMul; omega) (by unfold yMul; omega)
      rw [e5]
      exact (wrapU64 (n := yAdd (decI s i * 10) (yByte s i - 48)) (by unfold yAdd; omega) (by unfold yAdd; omega)).symm
  · exfalso
    simp only [yIn_f, yLt_t, yInt, yLen] at hn hl; omega
  · have hlt : i = s.length := by simp only [yLt_f, yInt, yLen] at hl; omega
    subst hlt
    refine ⟨fun hh => ?_, fun _ => ⟨fun _ => ⟨fun hz => ⟨fun hh => ?_, fun _ => ⟨rfl, rfl, rfl, rfl⟩⟩, fun _ => ⟨rfl, rfl, rfl, rfl⟩⟩, fun hh => ?_⟩⟩
    · exfalso
      cases s with
      | nil => simp at h1
      | cons a l => cases hh
    · exfalso
      simp only [yEq_t] at hz
      have := h4 hz
      simp only [yLt_t, yInt, yLen] at hh; omega
    · exfalso
      simp only [yIn_f, yLen] at hh; omega
set_option maxRecDepth 100000 in
theorem smRdr (hm : Tryd.prog.follows .mixedOrders = true) : SmCall Tryd.prog 36 (fun args h => (ctX sRdr rRdr fRdr args h).sel) :=
  ctX_ok hm (smL_ok (l := lPar) ⟨smIby, trivial⟩) (fun ds r post h => by
    unfold fRdr at h
    split at h
    · rename_i s b
      simp only [Option.some.injEq, Prod.mk.injEq, yAnd_t, yEq_t] at h
      obtain ⟨⟨rfl, h1⟩, rfl, rfl⟩ := h
      refine ⟨annPar s, 1000, ?_⟩
      have h2 := @goalRdr_ok
      unfold goalRdr at h2
      exact h2 s h1
    · cases h)
end Go.Proofs.YtdaflnnjfmickaaDoor.Ex
namespace Go.Proofs.YtdaflnnjfmickaaDoor.Ex
open Go

-- OPEN decI okD
def lRdr : List (Nat × Sm) := [(36, .ct (ctX sRdr rRdr fRdr))]
def fPar (ds : List Dx) : Option (Bool × Dx × List (List Dx)) :=
  match ds with
  | [.v (.ys s)] => some (okD s, .l [.v (.y .u64 (decI s (yLen s))), .v (.i .i64 0)], [])
  | _ => none
def goalPar : Prop := ∀ (s : List UInt8), okD s = true → wxS Tryd.prog (smL lRdr) (fun _ => none) 11 [.sc] [.v (.ys s)] rRdr (.l [.v (.y .u64 (decI s (yLen s))), .v (.i .i64 0)]) []
set_option maxRecDepth 100000 in
theorem goalPar_eq : goalPar = (∀ (s : List UInt8), okD s = true → (yAnd (yEq (10 : Int) (10 : Int)) (okD s) = true → decI s (yLen s) = decI s (yLen s) ∧ (0 : Int) = (0 : Int) ∧ true = true) ∧ (yAnd (yEq (10 : Int) (10 : Int)) (okD s) = false → False)) := by kernel_rfl
set_option maxRecDepth 100000 in
theorem goalPar_ok : goalPar := by
  refine @kernel_go _ _ goalPar_eq ?_
  intro s h
  refine ⟨fun _ => ⟨rfl, rfl, rfl⟩, fun e => ?_⟩
  rw [h] at e; cases e
set_option maxRecDepth 100000 in
theorem smPar (hm : Tryd.prog.follows .mixedOrders = true) : SmCall Tryd.prog 11 (fun args h => (ctX [.sc] rRdr fPar args h).sel) :=
  ctX_ok hm (smL_ok (l := lRdr) ⟨smRdr hm, trivial⟩) (fun ds r post h => by
    unfold fPar at h
    split at h
    · rename_i s
      simp only [Option.some.injEq, Prod.mk.injEq] at h
      obtain ⟨h1, rfl, rfl⟩ := h
      refine ⟨fun _ => none, 1000, ?_⟩
      have h2 := @goalPar_ok
      unfold goalPar at h2
      with_reducible exact @h2 s h1
    · cases h)
end Go.Proofs.YtdaflnnjfmickaaDoor.Ex
namespace Go.Proofs.YtdaflnnjfmickaaDoor.Ex
open Go

theorem dcL_snoc (l : List UInt8) (b : UInt8) (a : Int) : dcL (l ++ [b]) a = dcL l a * 10 + ((b.toNat : Int) - 48) := by
  unfold dcL; rw [List.foldl_append]; rfl
theorem decI_dcL (s : List UInt8) : ∀ k, k ≤ s.length → decI s k = dcL (s.take k) 0
  | 0, _ => rfl
  | k + 1, h => by
    have e : s.take (k + 1) = s.take k ++ [s[k]] := by rw [List.take_succ_eq_append_getElem (by omega)]
    rw [e, dcL_snoc, ← decI_dcL s k (by omega)]
    show decI s k * 10 + (yByte s k - 48) = _
    have e2 : yByte s k = (s[k].toNat : Int) := by unfold yByte; simp [show k < s.length by omega]
    rw [e2]
theorem decI_fm {n : Int} (h0 : 0 ≤ n) (h1 : n < 10 ^ 20) : decI (fm n) (yLen (fm n)) = n := by
  show decI (fm n) (fm n).length = n
  rw [decI_dcL _ _ (Nat.le_refl _)]
  show dcL ((fm n).take (fm n).length) 0 = n
  rw [List.take_length]; exact dcL_fm h0 h1
theorem fmF_most : ∀ (k j : Nat) (n : Int) (acc : List UInt8), 0 ≤ n → n < 10 ^ j → 1 ≤ j → (fmF k n acc).length ≤ j + acc.length
  | 0, j, _, acc, _, _, _ => by show acc.length ≤ _; omega
  | k + 1, j, n, acc, h0, h1, hj => by
    unfold fmF
    by_cases e : n / 10 = 0
    · rw [decide_eq_true e, cond_true]; show acc.length + 1 ≤ _; omega
    · rw [decide_eq_false e, cond_false]
      obtain ⟨i, rfl⟩ : ∃ i, j = i + 1 := ⟨j - 1, by omega⟩
      have hp : (10 : Int) ^ (i + 1) = 10 ^ i * 10 := Int.pow_succ 10 i
      have hi : 1 ≤ i := by
        cases i with
        | zero => exfalso; apply e; have : n < 10 := h1; omega
        | succ k => omega
      have := fmF_most k i (n / 10) (dgU (n % 10) :: acc) (by omega) (by rw [hp] at h1; omega) hi
      rw [List.length_cons] at this; omega
theorem fmF_least : ∀ (k : Nat) (n : Int) (acc : List UInt8), acc.length ≤ (fmF k n acc).length
  | 0, _, _ => Nat.le_refl _
  | k + 1, n, acc => by
    unfold fmF
    cases decide (n / 10 = 0) with
    | true => show acc.length ≤ acc.length + 1; omega
    | false =>
      have := fmF_least k (n / 10) (dgU (n % 10) :: acc)
      rw [List.length_cons] at this
      show acc.length ≤ (fmF k (n / 10) _).length; omega
theorem fm_one (n : Int) : 1 ≤ (fm n).length := by
  unfold fm fmF
  cases decide (n / 10 = 0) with
  | true => exact Nat.le_refl _
  | false => exact fmF_least 19 (n / 10) [dgU (n % 10)]
theorem okD_fm {n : Int} (h0 : 1 ≤ n) (h1 : n ≤ 1048576) : okD (fm n) = true := by
  have h7 : n < 10 ^ 7 := by show n < 10000000; omega
  have h20 : n < 10 ^ 20 := by show n < 100000000000000000000; omega
  have hl := fmF_most 20 7 n [] (by omega) h7 (by omega)
  have hl1 := fm_one n
  have hh := fm_head h0 h20
  refine decide_eq_true ⟨hl1, by show (fmF 20 n []).length ≤ 18; rw [List.length_nil] at hl; omega, fun i hi => ?_, fun hz => ?_⟩
  · have hd := fm_dig (n := n) (by omega) (fm n)[i] (List.getElem_mem hi)
    have e2 : yByte (fm n) i = ((fm n)[i].toNat : Int) := by unfold yByte; simp [hi]
    unfold isD at hd
    rw [e2]; omega
  · exfalso
    cases hc : fm n with
    | nil => rw [hc] at hl1; simp at hl1
    | cons a l =>
      rw [hc] at hh hz
      apply hh
      have e2 : (a.toNat : Int) = 48 := hz
      have e3 : a = 48 := UInt8.toNat_inj.1 (by show a.toNat = 48; omega)
      rw [e3]; rfl
theorem noSp_fm {n : Int} (h0 : 0 ≤ n) : (32 : UInt8) ∉ fm n := fun h => by
  have := fm_dig h0 _ h
  unfold isD at this
  have e : (32 : UInt8).toNat = 32 := rfl
  omega
theorem idx_app (c : UInt8) (r : List UInt8) : ∀ (a : List UInt8), c ∉ a → Lib.indexByte (a ++ c :: r) c = a.length
  | [], _ => by
    show (if c == c then (0 : Int) else _) = 0
    simp
  | b :: a, h => by
    have h1 : ¬ b = c := fun e => h (by simp [e])
    have h2 := idx_app c r a (fun e => h (by simp [e]))
    show (if b == c then (0 : Int) else if Lib.indexByte (a ++ c :: r) c == -1 then -1 else Lib.indexByte (a ++ c :: r) c + 1) = _
    rw [h2, if_neg (by simpa using h1), if_neg (by simp)]
    simp
theorem sp_step (c : UInt8) (a r : List UInt8) (k : Nat) (h : c ∉ a) : Lib.splitK [c] 0 (k + 1) (a ++ c :: r) = a :: Lib.splitK [c] 0 k r := by
  rw [Lib.splitK, Lib.index_one, idx_app c r a h, if_neg (by simp)]
  simp
theorem spS5 {a b c d e : List UInt8} (ha : (32 : UInt8) ∉ a) (hb : (32 : UInt8) ∉ b) (hc : (32 : UInt8) ∉ c) (hd : (32 : UInt8) ∉ d) (he : (32 : UInt8) ∉ e) :
    spS (joinL [a, b, c, d, e] [32]) 32 = [a, b, c, d, e] ∧ (joinL [a, b, c, d, e] [32]).count 32 = 4 := by
  have h0 : joinL [a, b, c, d, e] [32] = a ++ 32 :: (b ++ 32 :: (c ++ 32 :: (d ++ 32 :: e))) := by rw [joinL5]; simp
  have hn : (joinL [a, b, c, d, e] [32]).count 32 = 4 := by
    rw [h0]; simp [List.count_append, List.count_eq_zero.2 ha, List.count_eq_zero.2 hb, List.count_eq_zero.2 hc, List.count_eq_zero.2 hd, List.count_eq_zero.2 he]
  refine ⟨?_, hn⟩
  unfold spS
  rw [Lib.count_one, hn, h0, sp_step 32 a _ 3 ha, sp_step 32 b _ 2 hb, sp_step 32 c _ 1 hc, sp_step 32 d _ 0 hd]
  rfl
theorem trim_app (p l : List UInt8) : trimP (p ++ l) p = l := by
  have h : Lib.hasPrefix (p ++ l) p = true := by unfold Lib.hasPrefix; rw [List.isPrefixOf_iff_prefix]; exact List.prefix_append p l
  unfold trimP Lib.trimPrefix
  rw [if_pos h]; simp
theorem has_app (p l : List UInt8) : hasP (p ++ l) p = true := by
  unfold hasP Lib.hasPrefix; rw [List.isPrefixOf_iff_prefix]; exact List.prefix_append p l
theorem sp_text {s t f l p : Int} (h : rightC s t f l p = true) :
    spS (textC s t f l p) 32 = [[115, 108, 111, 116, 115, 61] ++ fm s, [116, 104, 114, 101, 97, 100, 115, 61] ++ fm t, [102, 97, 110, 61] ++ fm f, [108, 105, 109, 98, 111, 61] ++ fm l, [112, 97, 116, 105, 101, 110, 99, 101, 61] ++ fm p] ∧ okSp 5 (textC s t f l p) 32 = true := by
  rw [rightC_iff] at h
  obtain ⟨a1, a2, b1, b2, c1, c2, d1, d2, e1, e2⟩ := h
  have ns (w : List UInt8) (n : Int) (h0 : 0 ≤ n) (hw : (32 : UInt8) ∉ w) : (32 : UInt8) ∉ w ++ fm n := by
    rw [List.mem_append]; exact fun h => h.elim hw (noSp_fm h0)
  have eT : textC s t f l p = joinL [[115, 108, 111, 116, 115, 61] ++ fm s, [116, 104, 114, 101, 97, 100, 115, 61] ++ fm t, [102, 97, 110, 61] ++ fm f, [108, 105, 109, 98, 111, 61] ++ fm l, [112, 97, 116, 105, 101, 110, 99, 101, 61] ++ fm p] [32] := by
    unfold textC
    rw [fmI_pos (by omega), fmI_pos (by omega), fmI_pos (by omega), fmI_pos (by omega), fmI_pos (by omega)]
    rfl
  obtain ⟨h1, h2⟩ := spS5 (ns [115, 108, 111, 116, 115, 61] s (by omega) (by decide)) (ns [116, 104, 114, 101, 97, 100, 115, 61] t (by omega) (by decide)) (ns [102, 97, 110, 61] f (by omega) (by decide)) (ns [108, 105, 109, 98, 111, 61] l (by omega) (by decide)) (ns [112, 97, 116, 105, 101, 110, 99, 101, 61] p (by omega) (by decide))
  rw [eT]
  refine ⟨h1, ?_⟩
  unfold okSp
  rw [h2]
  have l1 := fm_len s
  have l2 := fm_len t
  have l3 := fm_len f
  have l4 := fm_len l
  have l5 := fm_len p
  unfold yLen at l1 l2 l3 l4 l5
  simp only [Bool.and_eq_true, Nat.blt_eq]
  refine ⟨?_, rfl⟩
  rw [joinL5]
  simp; omega
end Go.Proofs.YtdaflnnjfmickaaDoor.Ex
namespace Go.Proofs.YtdaflnnjfmickaaDoor.Ex
open Go Go.RowKit

def lEr : List (Nat × Sm) := [(30, .call whyG), (29, .call fldG)]
theorem up07 : isB true (callS Tryd.prog (smL lEr) 1000 7 []) = true := by kernel_rfl
def lBk (fT : List Da → Option (Bool × AV)) (fR : List Da → Option (Bool × AV)) (k : Nat) : List (Nat × Sm) := [(5, .ct (ctS gConf fT)), (8, .call (closG wordsL 0 5 5 false aoWords)), (9, .ct (ctN gS2 (fSplit k) 9)), (10, .ct (ctS gS2 fCutT)), (11, .ct (ctX [.sc] rRdr fPar)), (12, .ct (ctS gConf fR)), (6, .ct (ctS gConf fWrong)), (7, .call (smB true))]
def goalBkT : Prop := ∀ (s t f l p : Int), rightC s t f l p = true → wxF Tryd.prog (smL (lBk fTxt fRight 5)) (fun _ => none) 1000 3 (canA gConf (dConf s t f l p) []).1 (heapOf (canA gConf (dConf s t f l p) []).2) (fun r _ => cmpC (.yb true) r)
def goalBkF : Prop := ∀ (s t f l p : Int), rightC s t f l p = false → wxF Tryd.prog (smL (lBk fTxt0 fRight 1)) (fun _ => none) 1000 3 (canA gConf (dConf s t f l p) []).1 (heapOf (canA gConf (dConf s t f l p) []).2) (fun r _ => cmpC (.yb true) r)
set_option maxRecDepth 100000 in
theorem goalBkT_eq : goalBkT = (∀ (s t f l p : Int), rightC s t f l p = true → (rightC s t f l p = true → (okSp 5 (textC s t f l p) (32 : UInt8) = true → (hasP (hdS (spS (textC s t f l p) (32 : UInt8))) [(115 : UInt8), (108 : UInt8), (111 : UInt8), (116 : UInt8), (115 : UInt8), (61 : UInt8)] = true → (okD (trimP (hdS (spS (textC s t f l p) (32 : UInt8))) [(115 : UInt8), (108 : UInt8), (111 : UInt8), (116 : UInt8), (115 : UInt8), (61 : UInt8)]) = true → (yLt (1048576 : Int) (decI (trimP (hdS (spS (textC s t f l p) (32 : UInt8))) [(115 : UInt8), (108 : UInt8), (111 : UInt8), (116 : UInt8), (115 : UInt8), (61 : UInt8)]) (yLen (trimP (hdS (spS (textC s t f l p) (32 : UInt8))) [(115 : UInt8), (108 : UInt8), (111 : UInt8), (116 : UInt8), (115 : UInt8), (61 : UInt8)]))) = true → (hasP (hdS (tlS (spS (textC s t f l p) (32 : UInt8)))) [(116 : UInt8), (104 : UInt8), (114 : UInt8), (101 : UInt8), (97 : UInt8), (100 : UInt8), (115 : UInt8), (61 : UInt8)] = true → (okD (trimP (hdS (tlS (spS (textC s t f l p) (32 : UInt8)))) [(116 : UInt8), (104 : UInt8), (114 : UInt8), (101 : UInt8), (97 : UInt8), (100 : UInt8), (115 : UInt8), (61 : UInt8)]) = true → (yLt (1048576 : Int) (decI (trimP (hdS (tlS (spS (textC s t f l p) (32 : UInt8)))) [(116 : UInt8), (104 : UInt8), (114 : UInt8), (101 : UInt8), (97 : UInt8), (100 : UInt8), (115 : UInt8), (61 : UInt8)]) (yLen (trimP (hdS (tlS (spS (textC s t f l p) (32 : UInt8)))) [(116 : UInt8), (104 : UInt8), (114 : UInt8), (101 : UInt8), (97 : UInt8), (100 : UInt8), (115 : UInt8), (61 : UInt8)]))) = true → (hasP (hdS (tlS (tlS (spS (textC s t f l p) (32 : UInt8))))) [(102 : UInt8), (97 : UInt8), (110 : UInt8), (61 : UInt8)] = true → (okD (trimP (hdS (tlS (tlS (spS (textC s t f l p) (32 : UInt8))))) [(102 : UInt8), (97 : UInt8), (110 : UInt8), (61 : UInt8)]) = true → (yLt (1048576 : Int) (decI (trimP (hdS (tlS (tlS (spS (textC s t f l p) (32 : UInt8))))) [(102 : UInt8), (97 : UInt8), (110 : UInt8), (61 : UInt8)]) (yLen (trimP (hdS (tlS (tlS (spS (textC s t f l p) (32 : UInt8))))) [(102 : UInt8), (97 : UInt8), (110 : UInt8), (61 : UInt8)]))) = true → (hasP (hdS (tlS (tlS (tlS (spS (textC s t f l p) (32 : UInt8)))))) [(108 : UInt8), (105 : UInt8), (109 : UInt8), (98 : UInt8), (111 : UInt8), (61 : UInt8)] = true → (okD (trimP (hdS (tlS (tlS (tlS (spS (textC s t f l p) (32 : UInt8)))))) [(108 : UInt8), (105 : UInt8), (109 : UInt8), (98 : UInt8), (111 : UInt8), (61 : UInt8)]) = true → (yLt (1048576 : Int) (decI (trimP (hdS (tlS (tlS (tlS (spS (textC s t f l p) (32 : UInt8)))))) [(108 : UInt8), (105 : UInt8), (109 : UInt8), (98 : UInt8), (111 : UInt8), (61 : UInt8)]) (yLen (trimP (hdS (tlS (tlS (tlS (spS (textC s t f l p) (32 : UInt8)))))) [(108 : UInt8), (105 : UInt8), (109 : UInt8), (98 : UInt8), (111 : UInt8), (61 : UInt8)]))) = true → (hasP (hdS (tlS (tlS (tlS (tlS (spS (textC s t f l p) (32 : UInt8))))))) [(112 : UInt8), (97 : UInt8), (116 : UInt8), (105 : UInt8), (101 : UInt8), (110 : UInt8), (99 : UInt8), (101 : UInt8), (61 : UInt8)] = true → (okD (trimP (hdS (tlS (tlS (tlS (tlS (spS (textC s t f l p) (32 : UInt8))))))) [(112 : UInt8), (97 : UInt8), (116 : UInt8), (105 : UInt8), (101 : UInt8), (110 : UInt8), (99 : UInt8), (101 : UInt8), (61 : UInt8)]) = true → (yLt (1048576 : Int) (decI (trimP (hdS (tlS (tlS (tlS (tlS (spS (textC s t f l p) (32 : UInt8))))))) [(112 : UInt8), (97 : UInt8), (116 : UInt8), (105 : UInt8), (101 : UInt8), (110 : UInt8), (99 : UInt8), (101 : UInt8), (61 : UInt8)]) (yLen (trimP (hdS (tlS (tlS (tlS (tlS (spS (textC s t f l p) (32 : UInt8))))))) [(112 : UInt8), (97 : UInt8), (116 : UInt8), (105 : UInt8), (101 : UInt8), (110 : UInt8), (99 : UInt8), (101 : UInt8), (61 : UInt8)]))) = true → (true = true → (yLe (0 : Int) (wrongC s t f l p) = true → true = false) ∧ (yLe (0 : Int) (wrongC s t f l p) = false → (yAnd (yEq (0 : Int) s) (yAnd (yEq (0 : Int) t) (yAnd (yEq (0 : Int) f) (yAnd (yEq (0 : Int) l) (yAnd (yEq (0 : Int) p) true)))) = true → true = false) ∧ (yAnd (yEq (0 : Int) s) (yAnd (yEq (0 : Int) t) (yAnd (yEq (0 : Int) f) (yAnd (yEq (0 : Int) l) (yAnd (yEq (0 : Int) p) true)))) = false → true = false))) ∧ (true = false → False)) ∧ (yLt (1048576 : Int) (decI (trimP (hdS (tlS (tlS (tlS (tlS (spS (textC s t f l p) (32 : UInt8))))))) [(112 : UInt8), (97 : UInt8), (116 : UInt8), (105 : UInt8), (101 : UInt8), (110 : UInt8), (99 : UInt8), (101 : UInt8), (61 : UInt8)]) (yLen (trimP (hdS (tlS (tlS (tlS (tlS (spS (textC s t f l p) (32 : UInt8))))))) [(112 : UInt8), (97 : UInt8), (116 : UInt8), (105 : UInt8), (101 : UInt8), (110 : UInt8), (99 : UInt8), (101 : UInt8), (61 : UInt8)]))) = false → (true = true → (yLe (0 : Int) (wrongC s t f l p) = true → true = false) ∧ (yLe (0 : Int) (wrongC s t f l p) = false → (yAnd (yEq (0 : Int) s) (yAnd (yEq (0 : Int) t) (yAnd (yEq (0 : Int) f) (yAnd (yEq (0 : Int) l) (yAnd (yEq (0 : Int) p) true)))) = true → true = false) ∧ (yAnd (yEq (0 : Int) s) (yAnd (yEq (0 : Int) t) (yAnd (yEq (0 : Int) f) (yAnd (yEq (0 : Int) l) (yAnd (yEq (0 : Int) p) true)))) = false → true = false))) ∧ (true = false → False))) ∧ (okD (trimP (hdS (tlS (tlS (tlS (tlS (spS (textC s t f l p) (32 : UInt8))))))) [(112 : UInt8), (97 : UInt8), (116 : UInt8), (105 : UInt8), (101 : UInt8), (110 : UInt8), (99 : UInt8), (101 : UInt8), (61 : UInt8)]) = false → False)) ∧ (hasP (hdS (tlS (tlS (tlS (tlS (spS (textC s t f l p) (32 : UInt8))))))) [(112 : UInt8), (97 : UInt8), (116 : UInt8), (105 : UInt8), (101 : UInt8), (110 : UInt8), (99 : UInt8), (101 : UInt8), (61 : UInt8)] = false → False)) ∧ (yLt (1048576 : Int) (decI (trimP (hdS (tlS (tlS (tlS (spS (textC s t f l p) (32 : UInt8)))))) [(108 : UInt8), (105 : UInt8), (109 : UInt8), (98 : UInt8), (111 : UInt8), (61 : UInt8)]) (yLen (trimP (hdS (tlS (tlS (tlS (spS (textC s t f l p) (32 : UInt8)))))) [(108 : UInt8), (105 : UInt8), (109 : UInt8), (98 : UInt8), (111 : UInt8), (61 : UInt8)]))) = false → (hasP (hdS (tlS (tlS (tlS (tlS (spS (textC s t f l p) (32 : UInt8))))))) [(112 : UInt8), (97 : UInt8), (116 : UInt8), (105 : UInt8), (101 : UInt8), (110 : UInt8), (99 : UInt8), (101 : UInt8), (61 : UInt8)] = true → (okD (trimP (hdS (tlS (tlS (tlS (tlS (spS (textC s t f l p) (32 : UInt8))))))) [(112 : UInt8), (97 : UInt8), (116 : UInt8), (105 : UInt8), (101 : UInt8), (110 : UInt8), (99 : UInt8), (101 : UInt8), (61 : UInt8)]) = true → (yLt (1048576 : Int) (decI (trimP (hdS (tlS (tlS (tlS (tlS (spS (textC s t f l p) (32 : UInt8))))))) [(112 : UInt8), (97 : UInt8), (116 : UInt8), (105 : UInt8), (101 : UInt8), (110 : UInt8), (99 : UInt8), (101 : UInt8), (61 : UInt8)]) (yLen (trimP (hdS (tlS (tlS (tlS (tlS (spS (textC s t f l p) (32 : UInt8))))))) [(112 : UInt8), (97 : UInt8), (116 : UInt8), (105 : UInt8), (101 : UInt8), (110 : UInt8), (99 : UInt8), (101 : UInt8), (61 : UInt8)]))) = true → (true = true → (yLe (0 : Int) (wrongC s t f l p) = true → true = false) ∧ (yLe (0 : Int) (wrongC s t f l p) = false → (yAnd (yEq (0 : Int) s) (yAnd (yEq (0 : Int) t) (yAnd (yEq (0 : Int) f) (yAnd (yEq (0 : Int) l) (yAnd (yEq (0 : Int) p) true)))) = true → true = false) ∧ (yAnd (yEq (0 : Int) s) (yAnd (yEq (0 : Int) t) (yAnd (yEq (0 : Int) f) (yAnd (yEq (0 : Int) l) (yAnd (yEq (0 : Int) p) true)))) = false → true = false))) ∧ (true = false → False)) ∧ (yLt (1048576 : Int) (decI (trimP (hdS (tlS (tlS (tlS (tlS (spS (textC s t f l p) (32 : UInt8))))))) [(112 : UInt8), (97 : UInt8), (116 : UInt8), (105 : UInt8), (101 : UInt8), (110 : UInt8), (99 : UInt8), (101 : UInt8), (61 : UInt8)]) (yLen (trimP (hdS (tlS (tlS (tlS (tlS (spS (textC s t f l p) (32 : UInt8))))))) [(112 : UInt8), (97 : UInt8), (116 : UInt8), (105 : UInt8), (101 : UInt8), (110 : UInt8), (99 : UInt8), (101 : UInt8), (61 : UInt8)]))) = false → (true = true → (yLe (0 : Int) (wrongC s t f l p) = true → true = false) ∧ (yLe (0 : Int) (wrongC s t f l p) = false → (yAnd (yEq (0 : Int) s) (yAnd (yEq (0 : Int) t) (yAnd (yEq (0 : Int) f) (yAnd (yEq (0 : Int) l) (yAnd (yEq (0 : Int) p) true)))) = true → true = false) ∧ (yAnd (yEq (0 : Int) s) (yAnd (yEq (0 : Int) t) (yAnd (yEq (0 : Int) f) (yAnd (yEq (0 : Int) l) (yAnd (yEq (0 : Int) p) true)))) = false → true = false))) ∧ (true = false → False))) ∧ (okD (trimP (hdS (tlS (tlS (tlS (tlS (spS (textC s t f l p) (32 : UInt8))))))) [(112 : UInt8), (97 : UInt8), (116 : UInt8), (105 : UInt8), (101 : UInt8), (110 : UInt8), (99 : UInt8), (101 : UInt8), (61 : UInt8)]) = false → False)) ∧ (hasP (hdS (tlS (tlS (tlS (tlS (spS (textC s t f l p) (32 : UInt8))))))) [(112 : UInt8), (97 : UInt8), (116 : UInt8), (105 : UInt8), (101 : UInt8), (110 : UInt8), (99 : UInt8), (101 : UInt8), (61 : UInt8)] = false → False))) ∧ (okD (trimP (hdS (tlS (tlS (tlS (spS (textC s t f l p) (32 : UInt8)))))) [(108 : UInt8), (105 : UInt8), (109 : UInt8), (98 : UInt8), (111 : UInt8), (61 : UInt8)]) = false → False)) ∧ (hasP (hdS (tlS (tlS (tlS (spS (textC s t f l p) (32 : UInt8)))))) [(108 : UInt8), (105 : UInt8), (109 : UInt8), (98 : UInt8), (111 : UInt8), (61 : UInt8)] = false → False)) ∧ (yLt (1048576 : Int) (decI (trimP (hdS (tlS (tlS (spS (textC s t f l p) (32 : UInt8))))) [(102 : UInt8), (97 : UInt8), (110 : UInt8), (61 : UInt8)]) (yLen (trimP (hdS (tlS (tlS (spS (textC s t f l p) (32 : UInt8))))) [(102 : UInt8), (97 : UInt8), (110 : UInt8), (61 : UInt8)]))) = false → (hasP (hdS (tlS (tlS (tlS (spS (textC s t f l p) (32 : UInt8)))))) [(108 : UInt8), (105 : UInt8), (109 : UInt8), (98 : UInt8), (111 : UInt8), (61 : UInt8)] = true → (okD (trimP (hdS (tlS (tlS (tlS (spS (textC s t f l p) (32 : UInt8)))))) [(108 : UInt8), (105 : UInt8), (109 : UInt8), (98 : UInt8), (111 : UInt8), (61 : UInt8)]) = true → (yLt (1048576 : Int) (decI (trimP (hdS (tlS (tlS (tlS (spS (textC s t f l p) (32 : UInt8)))))) [(108 : UInt8), (105 : UInt8), (109 : UInt8), (98 : UInt8), (111 : UInt8), (61 : UInt8)]) (yLen (trimP (hdS (tlS (tlS (tlS (spS (textC s t f l p) (32 : UInt8)))))) [(108 : UInt8), (105 : UInt8), (109 : UInt8), (98 : UInt8), (111 : UInt8), (61 : UInt8)]))) = true → (hasP (hdS (tlS (tlS (tlS (tlS (spS (textC s t f l p) (32 : UInt8))))))) [(112 : UInt8), (97 : UInt8), (116 : UInt8), (105 : UInt8), (101 : UInt8), (110 : UInt8), (99 : UInt8), (101 : UInt8), (61 : UInt8)] = true → (okD (trimP (hdS (tlS (tlS (tlS (tlS (spS (textC s t f l p) (32 : UInt8))))))) [(112 : UInt8), (97 : UInt8), (116 : UInt8), (105 : UInt8), (101 : UInt8), (110 : UInt8), (99 : UInt8), (101 : UInt8), (61 : UInt8)]) = true → (yLt (1048576 : Int) (decI (trimP (hdS (tlS (tlS (tlS (tlS (spS (textC s t f l p) (32 : UInt8))))))) [(112 : UInt8), (97 : UInt8), (116 : UInt8), (105 : UInt8), (101 : UInt8), (110 : UInt8), (99 : UInt8), (101 : UInt8), (61 : UInt8)]) (yLen (trimP (hdS (tlS (tlS (tlS (tlS (spS (textC s t f l p) (32 : UInt8))))))) [(112 : UInt8), (97 : UInt8), (116 : UInt8), (105 : UInt8), (101 : UInt8), (110 : UInt8), (99 : UInt8), (101 : UInt8), (61 : UInt8)]))) = true → (true = true → (yLe (0 : Int) (wrongC s t f l p) = true → true = false) ∧ (yLe (0 : Int) (wrongC s t f l p) = false → (yAnd (yEq (0 : Int) s) (yAnd (yEq (0 : Int) t) (yAnd (yEq (0 : Int) f) (yAnd (yEq (0 : Int) l) (yAnd (yEq (0 : Int) p) true)))) = true → true = false) ∧ (yAnd (yEq (0 : Int) s) (yAnd (yEq (0 : Int) t) (yAnd (yEq (0 : Int) f) (yAnd (yEq (0 : Int) l) (yAnd (yEq (0 : Int) p) true)))) = false → true = false))) ∧ (true = false → False)) ∧ (yLt (1048576 : Int) (decI (trimP (hdS (tlS (tlS (tlS (tlS (spS (textC s t f l p) (32 : UInt8))))))) [(112 : UInt8), (97 : UInt8), (116 : UInt8), (105 : UInt8), (101 : UInt8), (110 : UInt8), (99 : UInt8), (101 : UInt8), (61 : UInt8)]) (yLen (trimP (hdS (tlS (tlS (tlS (tlS (spS (textC s t f l p) (32 : UInt8))))))) [(112 : UInt8), (97 : UInt8), (116 : UInt8), (105 : UInt8), (101 : UInt8), (110 : UInt8), (99 : UInt8), (101 : UInt8), (61 : UInt8)]))) = false → (true = true → (yLe (0 : Int) (wrongC s t f l p) = true → true = false) ∧ (yLe (0 : Int) (wrongC s t f l p) = false → (yAnd (yEq (0 : Int) s) (yAnd (yEq (0 : Int) t) (yAnd (yEq (0 : Int) f) (yAnd (yEq (0 : Int) l) (yAnd (yEq (0 : Int) p) true)))) = true → true = false) ∧ (yAnd (yEq (0 : Int) s) (yAnd (yEq (0 : Int) t) (yAnd (yEq (0 : Int) f) (yAnd (yEq (0 : Int) l) (yAnd (yEq (0 : Int) p) true)))) = false → true = false))) ∧ (true = false → False))) ∧ (okD (trimP (hdS (tlS (tlS (tlS (tlS (spS (textC s t f l p) (32 : UInt8))))))) [(112 : UInt8), (97 : UInt8), (116 : UInt8), (105 : UInt8), (101 : UInt8), (110 : UInt8), (99 : UInt8), (101 : UInt8), (61 : UInt8)]) = false → False)) ∧ (hasP (hdS (tlS (tlS (tlS (tlS (spS (textC s t f l p) (32 : UInt8))))))) [(112 : UInt8), (97 : UInt8), (116 : UInt8), (105 : UInt8), (101 : UInt8), (110 : UInt8), (99 : UInt8), (101 : UInt8), (61 : UInt8)] = false → False)) ∧ (yLt (1048576 : Int) (decI (trimP (hdS (tlS (tlS (tlS (spS (textC s t f l p) (32 : UInt8)))))) [(108 : UInt8), (105 : UInt8), (109 : UInt8), (98 : UInt8), (111 : UInt8), (61 : UInt8)]) (yLen (trimP (hdS (tlS (tlS (tlS (spS (textC s t f l p) (32 : UInt8)))))) [(108 : UInt8), (105 : UInt8), (109 : UInt8), (98 : UInt8), (111 : UInt8), (61 : UInt8)]))) = false → (hasP (hdS (tlS (tlS (tlS (tlS (spS (textC s t f l p) (32 : UInt8))))))) [(112 : UInt8), (97 : UInt8), (116 : UInt8), (105 : UInt8), (101 : UInt8), (110 : UInt8), (99 : UInt8), (101 : UInt8), (61 : UInt8)] = true → (okD (trimP (hdS (tlS (tlS (tlS (tlS (spS (textC s t f l p) (32 : UInt8))))))) [(112 : UInt8), (97 : UInt8), (116 : UInt8), (105 : UInt8), (101 : UInt8), (110 : UInt8), (99 : UInt8), (101 : UInt8), (61 : UInt8)]) = true → (yLt (1048576 : Int) (decI (trimP (hdS (tlS (tlS (tlS (tlS (spS (textC s t f l p) (32 : UInt8))))))) [(112 : UInt8), (97 : UInt8), (116 : UInt8), (105 : UInt8), (101 : UInt8), (110 : UInt8), (99 : UInt8), (101 : UInt8), (61 : UInt8)]) (yLen (trimP (hdS (tlS (tlS (tlS (tlS (spS (textC s t f l p) (32 : UInt8))))))) [(112 : UInt8), (97 : UInt8), (116 : UInt8), (105 : UInt8), (101 : UInt8), (110 : UInt8), (99 : UInt8), (101 : UInt8), (61 : UInt8)]))) = true → (true = true → (yLe (0 : Int) (wrongC s t f l p) = true → true = false) ∧ (yLe (0 : Int) (wrongC s t f l p) = false → (yAnd (yEq (0 : Int) s) (yAnd (yEq (0 : Int) t) (yAnd (yEq (0 : Int) f) (yAnd (yEq (0 : Int) l) (yAnd (yEq (0 : Int) p) true)))) = true → true = false) ∧ (yAnd (yEq (0 : Int) s) (yAnd (yEq (0 : Int) t) (yAnd (yEq (0 : Int) f) (yAnd (yEq (0 : Int) l) (yAnd (yEq (0 : Int) p) true)))) = false → true = false))) ∧ (true = false → False)) ∧ (yLt (1048576 : Int) (decI (trimP (hdS (tlS (tlS (tlS (tlS (spS (textC s t f l p) (32 : UInt8))))))) [(112 : UInt8), (97 : UInt8), (116 : UInt8), (105 : UInt8), (101 : UInt8), (110 : UInt8), (99 : UInt8), (101 : UInt8), (61 : UInt8)]) (yLen (trimP (hdS (tlS (tlS (tlS (tlS (spS (textC s t f l p) (32 : UInt8))))))) [(112 : UInt8), (97 : UInt8), (116 : UInt8), (105 : UInt8), (101 : UInt8), (110 : UInt8), (99 : UInt8), (101 : UInt8), (61 : UInt8)]))) = false → (true = true → (yLe (0 : Int) (wrongC s t f l p) = true → true = false) ∧ (yLe (0 : Int) (wrongC s t f l p) = false → (yAnd (yEq (0 : Int) s) (yAnd (yEq (0 : Int) t) (yAnd (yEq (0 : Int) f) (yAnd (yEq (0 : Int) l) (yAnd (yEq (0 : Int) p) true)))) = true → true = false) ∧ (yAnd (yEq (0 : Int) s) (yAnd (yEq (0 : Int) t) (yAnd (yEq (0 : Int) f) (yAnd (yEq (0 : Int) l) (yAnd (yEq (0 : Int) p) true)))) = false → true = false))) ∧ (true = false → False))) ∧ (okD (trimP (hdS (tlS (tlS (tlS (tlS (spS (textC s t f l p) (32 : UInt8))))))) [(112 : UInt8), (97 : UInt8), (116 : UInt8), (105 : UInt8), (101 : UInt8), (110 : UInt8), (99 : UInt8), (101 : UInt8), (61 : UInt8)]) = false → False)) ∧ (hasP (hdS (tlS (tlS (tlS (tlS (spS (textC s t f l p) (32 : UInt8))))))) [(112 : UInt8), (97 : UInt8), (116 : UInt8), (105 : UInt8), (101 : UInt8), (110 : UInt8), (99 : UInt8), (101 : UInt8), (61 : UInt8)] = false → False))) ∧ (okD (trimP (hdS (tlS (tlS (tlS (spS (textC s t f l p) (32 : UInt8)))))) [(108 : UInt8), (105 : UInt8), (109 : UInt8), (98 : UInt8), (111 : UInt8), (61 : UInt8)]) = false → False)) ∧ (hasP (hdS (tlS (tlS (tlS (spS (textC s t f l p) (32 : UInt8)))))) [(108 : UInt8), (105 : UInt8), (109 : UInt8), (98 : UInt8), (111 : UInt8), (61 : UInt8)] = false → False))) ∧ (okD (trimP (hdS (tlS (tlS (spS (textC s t f l p) (32 : UInt8))))) [(102 : UInt8), (97 : UInt8), (110 : UInt8), (61 : UInt8)]) = false → False)) ∧ (hasP (hdS (tlS (tlS (spS (textC s t f l p) (32 : UInt8))))) [(102 : UInt8), (97 : UInt8), (110 : UInt8), (61 : UInt8)] = false → False)) ∧ (yLt (1048576 : Int) (decI (trimP (hdS (tlS (spS (textC s t f l p) (32 : UInt8)))) [(116 : UInt8), (104 : UInt8), (114 : UInt8), (101 : UInt8), (97 : UInt8), (100 : UInt8), (115 : UInt8), (61 : UInt8)]) (yLen (trimP (hdS (tlS (spS (textC s t f l p) (32 : UInt8)))) [(116 : UInt8), (104 : UInt8), (114 : UInt8), (101 : UInt8), (97 : UInt8), (100 : UInt8), (115 : UInt8), (61 : UInt8)]))) = false → (hasP (hdS (tlS (tlS (spS (textC s t f l p) (32 : UInt8))))) [(102 : UInt8), (97 : UInt8), (110 : UInt8), (61 : UInt8)] = true → (okD (trimP (hdS (tlS (tlS (spS (textC s t f l p) (32 : UInt8))))) [(102 : UInt8), (97 : UInt8), (110 : UInt8), (61 : UInt8)]) = true → (yLt (1048576 : Int) (decI (trimP (hdS (tlS (tlS (spS (textC s t f l p) (32 : UInt8))))) [(102 : UInt8), (97 : UInt8), (110 : UInt8), (61 : UInt8)]) (yLen (trimP (hdS (tlS (tlS (spS (textC s t f l p) (32 : UInt8))))) [(102 : UInt8), (97 : UInt8), (110 : UInt8), (61 : UInt8)]))) = true → (hasP (hdS (tlS (tlS (tlS (spS (textC s t f l p) (32 : UInt8)))))) [(108 : UInt8), (105 : UInt8), (109 : UInt8), (98 : UInt8), (111 : UInt8), (61 : UInt8)] = true → (okD (trimP (hdS (tlS (tlS (tlS (spS (textC s t f l p) (32 : UInt8)))))) [(108 : UInt8), (105 : UInt8), (109 : UInt8), (98 : UInt8), (111 : UInt8), (61 : UInt8)]) = true → (yLt (1048576 : Int) (decI (trimP (hdS (tlS (tlS (tlS (spS (textC s t f l p) (32 : UInt8)))))) [(108 : UInt8), (105 : UInt8), (109 : UInt8), (98 : UInt8), (111 : UInt8), (61 : UInt8)]) (yLen (trimP (hdS (tlS (tlS (tlS (spS (textC s t f l p) (32 : UInt8)))))) [(108 : UInt8), (105 : UInt8), (109 : UInt8), (98 : UInt8), (111 : UInt8), (61 : UInt8)]))) = true → (hasP (hdS (tlS (tlS (tlS (tlS (spS (textC s t f l p) (32 : UInt8))))))) [(112 : UInt8), (97 : UInt8), (116 : UInt8), (105 : UInt8), (101 : UInt8), (110 : UInt8), (99 : UInt8), (101 : UInt8), (61 : UInt8)] = true → (okD (trimP (hdS (tlS (tlS (tlS (tlS (spS (textC s t f l p) (32 : UInt8))))))) [(112 : UInt8), (97 : UInt8), (116 : UInt8), (105 : UInt8), (101 : UInt8), (110 : UInt8), (99 : UInt8), (101 : UInt8), (61 : UInt8)]) = true → (yLt (1048576 : Int) (decI (trimP (hdS (tlS (tlS (tlS (tlS (spS (textC s t f l p) (32 : UInt8))))))) [(112 : UInt8), (97 : UInt8), (116 : UInt8), (105 : UInt8), (101 : UInt8), (110 : UInt8), (99 : UInt8), (101 : UInt8), (61 : UInt8)]) (yLen (trimP (hdS (tlS (tlS (tlS (tlS (spS (textC s t f l p) (32 : UInt8))))))) [(112 : UInt8), (97 : UInt8), (116 : UInt8), (105 : UInt8), (101 : UInt8), (110 : UInt8), (99 : UInt8), (101 : UInt8), (61 : UInt8)]))) = true → (true = true → (yLe (0 : Int) (wrongC s t f l p) = true → true = false) ∧ (yLe (0 : Int) (wrongC s t f l p) = false → (yAnd (yEq (0 : Int) s) (yAnd (yEq (0 : Int) t) (yAnd (yEq (0 : Int) f) (yAnd (yEq (0 : Int) l) (yAnd (yEq (0 : Int) p) true)))) = true → true = false) ∧ (yAnd (yEq (0 : Int) s) (yAnd (yEq (0 : Int) t) (yAnd (yEq (0 : Int) f) (yAnd (yEq (0 : Int) l) (yAnd (yEq (0 : Int) p) true)))) = false → true = false))) ∧ (true = false → False)) ∧ (yLt (1048576 : Int) (decI (trimP (hdS (tlS (tlS (tlS (tlS (spS (textC s t f l p) (32 : UInt8))))))) [(112 : UInt8), (97 : UInt8), (116 : UInt8), (105 : UInt8), (101 : UInt8), (110 : UInt8), (99 : UInt8), (101 : UInt8), (61 : UInt8)]) (yLen (trimP (hdS (tlS (tlS (tlS (tlS (spS (textC s t f l p) (32 : UInt8))))))) [(112 : UInt8), (97 : UInt8), (116 : UInt8), (105 : UInt8), (101 : UInt8), (110 : UInt8), (99 : UInt8), (101 : UInt8), (61 : UInt8)]))) = false → (true = true → (yLe (0 : Int) (wrongC s t f l p) = true → true = false) ∧ (yLe (0 : Int) (wrongC s t f l p) = false → (yAnd (yEq (0 : Int) s) (yAnd (yEq (0 : Int) t) (yAnd (yEq (0 : Int) f) (yAnd (yEq (0 : Int) l) (yAnd (yEq (0 : Int) p) true)))) = true → true = false) ∧ (yAnd (yEq (0 : Int) s) (yAnd (yEq (0 : Int) t) (yAnd (yEq (0 : Int) f) (yAnd (yEq (0 : Int) l) (yAnd (yEq (0 : Int) p) true)))) = false → true = false))) ∧ (true = false → False))) ∧ (okD (trimP (hdS (tlS (tlS (tlS (tlS (spS (textC s t f l p) (32 : UInt8))))))) [(112 : UInt8), (97 : UInt8), (116 : UInt8), (105 : UInt8), (101 : UInt8), (110 : UInt8), (99 : UInt8), (101 : UInt8), (61 : UInt8)]) = false → False)) ∧ (hasP (hdS (tlS (tlS (tlS (tlS (spS (textC s t f l p) (32 : UInt8))))))) [(112 : UInt8), (97 : UInt8), (116 : UInt8), (105 : UInt8), (101 : UInt8), (110 : UInt8), (99 : UInt8), (101 : UInt8), (61 : UInt8)] = false → False)) ∧ (yLt (1048576 : Int) (decI (trimP (hdS (tlS (tlS (tlS (spS (textC s t f l p) (32 : UInt8)))))) [(108 : UInt8), (105 : UInt8), (109 : UInt8), (98 : UInt8), (111 : UInt8), (61 : UInt8)]) (yLen (trimP (hdS (tlS (tlS (tlS (spS (textC s t f l p) (32 : UInt8)))))) [(108 : UInt8), (105 : UInt8), (109 : UInt8), (98 : UInt8), (111 : UInt8), (61 : UInt8)]))) = false → (hasP (hdS (tlS (tlS (tlS (tlS (spS (textC s t f l p) (32 : UInt8))))))) [(112 : UInt8), (97 : UInt8), (116 : UInt8), (105 : UInt8), (101 : UInt8), (110 : UInt8), (99 : UInt8), (101 : UInt8), (61 : UInt8)] = true → (okD (trimP (hdS (tlS (tlS (tlS (tlS (spS (textC s t f l p) (32 : UInt8))))))) [(112 : UInt8), (97 : UInt8), (116 : UInt8), (105 : UInt8), (101 : UInt8), (110 : UInt8), (99 : UInt8), (101 : UInt8), (61 : UInt8)]) = true → (yLt (1048576 : Int) (decI (trimP (hdS (tlS (tlS (tlS (tlS (spS (textC s t f l p) (32 : UInt8))))))) [(112 : UInt8), (97 : UInt8), (116 : UInt8), (105 : UInt8), (101 : UInt8), (110 : UInt8), (99 : UInt8), (101 : UInt8), (61 : UInt8)]) (yLen (trimP (hdS (tlS (tlS (tlS (tlS (spS (textC s t f l p) (32 : UInt8))))))) [(112 : UInt8), (97 : UInt8), (116 : UInt8), (105 : UInt8), (101 : UInt8), (110 : UInt8), (99 : UInt8), (101 : UInt8), (61 : UInt8)]))) = true → (true = true → (yLe (0 : Int) (wrongC s t f l p) = true → true = false) ∧ (yLe (0 : Int) (wrongC s t f l p) = false → (yAnd (yEq (0 : Int) s) (yAnd (yEq (0 : Int) t) (yAnd (yEq (0 : Int) f) (yAnd (yEq (0 : Int) l) (yAnd (yEq (0 : Int) p) true)))) = true → true = false) ∧ (yAnd (yEq (0 : Int) s) (yAnd (yEq (0 : Int) t) (yAnd (yEq (0 : Int) f) (yAnd (yEq (0 : Int) l) (yAnd (yEq (0 : Int) p) true)))) = false → true = false))) ∧ (true = false → False)) ∧ (yLt (1048576 : Int) (decI (trimP (hdS (tlS (tlS (tlS (tlS (spS (textC s t f l p) (32 : UInt8))))))) [(112 : UInt8), (97 : UInt8), (116 : UInt8), (105 : UInt8), (101 : UInt8), (110 : UInt8), (99 : UInt8), (101 : UInt8), (61 : UInt8)]) (yLen (trimP (hdS (tlS (tlS (tlS (tlS (spS (textC s t f l p) (32 : UInt8))))))) [(112 : UInt8), (97 : UInt8), (116 : UInt8), (105 : UInt8), (101 : UInt8), (110 : UInt8), (99 : UInt8), (101 : UInt8), (61 : UInt8)]))) = false → (true = true → (yLe (0 : Int) (wrongC s t f l p) = true → true = false) ∧ (yLe (0 : Int) (wrongC s t f l p) = false → (yAnd (yEq (0 : Int) s) (yAnd (yEq (0 : Int) t) (yAnd (yEq (0 : Int) f) (yAnd (yEq (0 : Int) l) (yAnd (yEq (0 : Int) p) true)))) = true → true = false) ∧ (yAnd (yEq (0 : Int) s) (yAnd (yEq (0 : Int) t) (yAnd (yEq (0 : Int) f) (yAnd (yEq (0 : Int) l) (yAnd (yEq (0 : Int) p) true)))) = false → true = false))) ∧ (true = false → False))) ∧ (okD (trimP (hdS (tlS (tlS (tlS (tlS (spS (textC s t f l p) (32 : UInt8))))))) [(112 : UInt8), (97 : UInt8), (116 : UInt8), (105 : UInt8), (101 : UInt8), (110 : UInt8), (99 : UInt8), (101 : UInt8), (61 : UInt8)]) = false → False)) ∧ (hasP (hdS (tlS (tlS (tlS (tlS (spS (textC s t f l p) (32 : UInt8))))))) [(112 : UInt8), (97 : UInt8), (116 : UInt8), (105 : UInt8), (101 : UInt8), (110 : UInt8), (99 : UInt8), (101 : UInt8), (61 : UInt8)] = false → False))) ∧ (okD (trimP (hdS (tlS (tlS (tlS (spS (textC s t f l p) (32 : UInt8)))))) [(108 : UInt8), (105 : UInt8), (109 : UInt8), (98 : UInt8), (111 : UInt8), (61 : UInt8)]) = false → False)) ∧ (hasP (hdS (tlS (tlS (tlS (spS (textC s t f l p) (32 : UInt8)))))) [(108 : UInt8), (105 : UInt8), (109 : UInt8), (98 : UInt8), (111 : UInt8), (61 : UInt8)] = false → False)) ∧ (yLt (1048576 : Int) (decI (trimP (hdS (tlS (tlS (spS (textC s t f l p) (32 : UInt8))))) [(102 : UInt8), (97 : UInt8), (110 : UInt8), (61 : UInt8)]) (yLen (trimP (hdS (tlS (tlS (spS (textC s t f l p) (32 : UInt8))))) [(102 : UInt8), (97 : UInt8), (110 : UInt8), (61 : UInt8)]))) = false → (hasP (hdS (tlS (tlS (tlS (spS (textC s t f l p) (32 : UInt8)))))) [(108 : UInt8), (105 : UInt8), (109 : UInt8), (98 : UInt8), (111 : UInt8), (61 : UInt8)] = true → (okD (trimP (hdS (tlS (tlS (tlS (spS (textC s t f l p) (32 : UInt8)))))) [(108 : UInt8), (105 : UInt8), (109 : UInt8), (98 : UInt8), (111 : UInt8), (61 : UInt8)]) = true → (yLt (1048576 : Int) (decI (trimP (hdS (tlS (tlS (tlS (spS (textC s t f l p) (32 : UInt8)))))) [(108 : UInt8), (105 : UInt8), (109 : UInt8), (98 : UInt8), (111 : UInt8), (61 : UInt8)]) (yLen (trimP (hdS (tlS (tlS (tlS (spS (textC s t f l p) (32 : UInt8)))))) [(108 : UInt8), (105 : UInt8), (109 : UInt8), (98 : UInt8), (111 : UInt8), (61 : UInt8)]))) = true → (hasP (hdS (tlS (tlS (tlS (tlS (spS (textC s t f l p) (32 : UInt8))))))) [(112 : UInt8), (97 : UInt8), (116 : UInt8), (105 : UInt8), (101 : UInt8), (110 : UInt8), (99 : UInt8), (101 : UInt8), (61 : UInt8)] = true → (okD (trimP (hdS (tlS (tlS (tlS (tlS (spS (textC s t f l p) (32 : UInt8))))))) [(112 : UInt8), (97 : UInt8), (116 : UInt8), (105 : UInt8), (101 : UInt8), (110 : UInt8), (99 : UInt8), (101 : UInt8), (61 : UInt8)]) = true → (yLt (1048576 : Int) (decI (trimP (hdS (tlS (tlS (tlS (tlS (spS (textC s t f l p) (32 : UInt8))))))) [(112 : UInt8), (97 : UInt8), (116 : UInt8), (105 : UInt8), (101 : UInt8), (110 : UInt8), (99 : UInt8), (101 : UInt8), (61 : UInt8)]) (yLen (trimP (hdS (tlS (tlS (tlS (tlS (spS (textC s t f l p) (32 : UInt8))))))) [(112 : UInt8), (97 : UInt8), (116 : UInt8), (105 : UInt8), (101 : UInt8), (110 : UInt8), (99 : UInt8), (101 : UInt8), (61 : UInt8)]))) = true → (true = true → (yLe (0 : Int) (wrongC s t f l p) = true → true = false) ∧ (yLe (0 : Int) (wrongC s t f l p) = false → (yAnd (yEq (0 : Int) s) (yAnd (yEq (0 : Int) t) (yAnd (yEq (0 : Int) f) (yAnd (yEq (0 : Int) l) (yAnd (yEq (0 : Int) p) true)))) = true → true = false) ∧ (yAnd (yEq (0 : Int) s) (yAnd (yEq (0 : Int) t) (yAnd (yEq (0 : Int) f) (yAnd (yEq (0 : Int) l) (yAnd (yEq (0 : Int) p) true)))) = false → true = false))) ∧ (true = false → False)) ∧ (yLt (1048576 : Int) (decI (trimP (hdS (tlS (tlS (tlS (tlS (spS (textC s t f l p) (32 : UInt8))))))) [(112 : UInt8), (97 : UInt8), (116 : UInt8), (105 : UInt8), (101 : UInt8), (110 : UInt8), (99 : UInt8), (101 : UInt8), (61 : UInt8)]) (yLen (trimP (hdS (tlS (tlS (tlS (tlS (spS (textC s t f l p) (32 : UInt8))))))) [(112 : UInt8), (97 : UInt8), (116 : UInt8), (105 : UInt8), (101 : UInt8), (110 : UInt8), (99 : UInt8), (101 : UInt8), (61 : UInt8)]))) = false → (true = true → (yLe (0 : Int) (wrongC s t f l p) = true → true = false) ∧ (yLe (0 : Int) (wrongC s t f l p) = false → (yAnd (yEq (0 : Int) s) (yAnd (yEq (0 : Int) t) (yAnd (yEq (0 : Int) f) (yAnd (yEq (0 : Int) l) (yAnd (yEq (0 : Int) p) true)))) = true → true = false) ∧ (yAnd (yEq (0 : Int) s) (yAnd (yEq (0 : Int) t) (yAnd (yEq (0 : Int) f) (yAnd (yEq (0 : Int) l) (yAnd (yEq (0 : Int) p) true)))) = false → true = false))) ∧ (true = false → False))) ∧ (okD (trimP (hdS (tlS (tlS (tlS (tlS (spS (textC s t f l p) (32 : UInt8))))))) [(112 : UInt8), (97 : UInt8), (116 : UInt8), (105 : UInt8), (101 : UInt8), (110 : UInt8), (99 : UInt8), (101 : UInt8), (61 : UInt8)]) = false → False)) ∧ (hasP (hdS (tlS (tlS (tlS (tlS (spS (textC s t f l p) (32 : UInt8))))))) [(112 : UInt8), (97 : UInt8), (116 : UInt8), (105 : UInt8), (101 : UInt8), (110 : UInt8), (99 : UInt8), (101 : UInt8), (61 : UInt8)] = false → False)) ∧ (yLt (1048576 : Int) (decI (trimP (hdS (tlS (tlS (tlS (spS (textC s t f l p) (32 : UInt8)))))) [(108 : UInt8), (105 : UInt8), (109 : UInt8), (98 : UInt8), (111 : UInt8), (61 : UInt8)]) (yLen (trimP (hdS (tlS (tlS (tlS (spS (textC s t f l p) (32 : UInt8)))))) [(108 : UInt8), (105 : UInt8), (109 : UInt8), (98 : UInt8), (111 : UInt8), (61 : UInt8)]))) = false → (hasP (hdS (tlS (tlS (tlS (tlS (spS (textC s t f l p) (32 : UInt8))))))) [(112 : UInt8), (97 : UInt8), (116 : UInt8), (105 : UInt8), (101 : UInt8), (110 : UInt8), (99 : UInt8), (101 : UInt8), (61 : UInt8)] = true → (okD (trimP (hdS (tlS (tlS (tlS (tlS (spS (textC s t f l p) (32 : UInt8))))))) [(112 : UInt8), (97 : UInt8), (116 : UInt8), (105 : UInt8), (101 : UInt8), (110 : UInt8), (99 : UInt8), (101 : UInt8), (61 : UInt8)]) = true → (yLt (1048576 : Int) (decI (trimP (hdS (tlS (tlS (tlS (tlS (spS (textC s t f l p) (32 : UInt8))))))) [(112 : UInt8), (97 : UInt8), (116 : UInt8), (105 : UInt8), (101 : UInt8), (110 : UInt8), (99 : UInt8), (101 : UInt8), (61 : UInt8)]) (yLen (trimP (hdS (tlS (tlS (tlS (tlS (spS (textC s t f l p) (32 : UInt8))))))) [(112 : UInt8), (97 : UInt8), (116 : UInt8), (105 : UInt8), (101 : UInt8), (110 : UInt8), (99 : UInt8), (101 : UInt8), (61 : UInt8)]))) = true → (true = true → (yLe (0 : Int) (wrongC s t f l p) = true → true = false) ∧ (yLe (0 : Int) (wrongC s t f l p) = false → (yAnd (yEq (0 : Int) s) (yAnd (yEq (0 : Int) t) (yAnd (yEq (0 : Int) f) (yAnd (yEq (0 : Int) l) (yAnd (yEq (0 : Int) p) true)))) = true → true = false) ∧ (yAnd (yEq (0 : Int) s) (yAnd (yEq (0 : Int) t) (yAnd (yEq (0 : Int) f) (yAnd (yEq (0 : Int) l) (yAnd (yEq (0 : Int) p) true)))) = false → true = false))) ∧ (true = false → False)) ∧ (yLt (1048576 : Int) (decI (trimP (hdS (tlS (tlS (tlS (tlS (spS (textC s t f l p) (32 : UInt8))))))) [(112 : UInt8), (97 : UInt8), (116 : UInt8), (105 : UInt8), (101 : UInt8), (110 : UInt8), (99 : UInt8), (101 : UInt8), (61 : UInt8)]) (yLen (trimP (hdS (tlS (tlS (tlS (tlS (spS (textC s t f l p) (32 : UInt8))))))) [(112 : UInt8), (97 : UInt8), (116 : UInt8), (105 : UInt8), (101 : UInt8), (110 : UInt8), (99 : UInt8), (101 : UInt8), (61 : UInt8)]))) = false → (true = true → (yLe (0 : Int) (wrongC s t f l p) = true → true = false) ∧ (yLe (0 : Int) (wrongC s t f l p) = false → (yAnd (yEq (0 : Int) s) (yAnd (yEq (0 : Int) t) (yAnd (yEq (0 : Int) f) (yAnd (yEq (0 : Int) l) (yAnd (yEq (0 : Int) p) true)))) = true → true = false) ∧ (yAnd (yEq (0 : Int) s) (yAnd (yEq (0 : Int) t) (yAnd (yEq (0 : Int) f) (yAnd (yEq (0 : Int) l) (yAnd (yEq (0 : Int) p) true)))) = false → true = false))) ∧ (true = false → False))) ∧ (okD (trimP (hdS (tlS (tlS (tlS (tlS (spS (textC s t f l p) (32 : UInt8))))))) [(112 : UInt8), (97 : UInt8), (116 : UInt8), (105 : UInt8), (101 : UInt8), (110 : UInt8), (99 : UInt8), (101 : UInt8), (61 : UInt8)]) = false → False)) ∧ (hasP (hdS (tlS (tlS (tlS (tlS (spS (textC s t f l p) (32 : UInt8))))))) [(112 : UInt8), (97 : UInt8), (116 : UInt8), (105 : UInt8), (101 : UInt8), (110 : UInt8), (99 : UInt8), (101 : UInt8), (61 : UInt8)] = false → False))) ∧ (okD (trimP (hdS (tlS (tlS (tlS (spS (textC s t f l p) (32 : UInt8)))))) [(108 : UInt8), (105 : UInt8), (109 : UInt8), (98 : UInt8), (111 : UInt8), (61 : UInt8)]) = false → False)) ∧ (hasP (hdS (tlS (tlS (tlS (spS (textC s t f l p) (32 : UInt8)))))) [(108 : UInt8), (105 : UInt8), (109 : UInt8), (98 : UInt8), (111 : UInt8), (61 : UInt8)] = false → False))) ∧ (okD (trimP (hdS (tlS (tlS (spS (textC s t f l p) (32 : UInt8))))) [(102 : UInt8), (97 : UInt8), (110 : UInt8), (61 : UInt8)]) = false → False)) ∧ (hasP (hdS (tlS (tlS (spS (textC s t f l p) (32 : UInt8))))) [(102 : UInt8), (97 : UInt8), (110 : UInt8), (61 : UInt8)] = false → False))) ∧ (okD (trimP (hdS (tlS (spS (textC s t f l p) (32 : UInt8)))) [(116 : UInt8), (104 : UInt8), (114 : UInt8), (101 : UInt8), (97 : UInt8), (100 : UInt8), (115 : UInt8), (61 : UInt8)]) = false → False)) ∧ (hasP (hdS (tlS (spS (textC s t f l p) (32 : UInt8)))) [(116 : UInt8), (104 : UInt8), (114 : UInt8), (101 : UInt8), (97 : UInt8), (100 : UInt8), (115 : UInt8), (61 : UInt8)] = false → False)) ∧ (yLt (1048576 : Int) (decI (trimP (hdS (spS (textC s t f l p) (32 : UInt8))) [(115 : UInt8), (108 : UInt8), (111 : UInt8), (116 : UInt8), (115 : UInt8), (61 : UInt8)]) (yLen (trimP (hdS (spS (textC s t f l p) (32 : UInt8))) [(115 : UInt8), (108 : UInt8), (111 : UInt8), (116 : UInt8), (115 : UInt8), (61 : UInt8)]))) = false → (hasP (hdS (tlS (spS (textC s t f l p) (32 : UInt8)))) [(116 : UInt8), (104 : UInt8), (114 : UInt8), (101 : UInt8), (97 : UInt8), (100 : UInt8), (115 : UInt8), (61 : UInt8)] = true → (okD (trimP (hdS (tlS (spS (textC s t f l p) (32 : UInt8)))) [(116 : UInt8), (104 : UInt8), (114 : UInt8), (101 : UInt8), (97 : UInt8), (100 : UInt8), (115 : UInt8), (61 : UInt8)]) = true → (yLt (1048576 : Int) (decI (trimP (hdS (tlS (spS (textC s t f l p) (32 : UInt8)))) [(116 : UInt8), (104 : UInt8), (114 : UInt8), (101 : UInt8), (97 : UInt8), (100 : UInt8), (115 : UInt8), (61 : UInt8)]) (yLen (trimP (hdS (tlS (spS (textC s t f l p) (32 : UInt8)))) [(116 : UInt8), (104 : UInt8), (114 : UInt8), (101 : UInt8), (97 : UInt8), (100 : UInt8), (115 : UInt8), (61 : UInt8)]))) = true → (hasP (hdS (tlS (tlS (spS (textC s t f l p) (32 : UInt8))))) [(102 : UInt8), (97 : UInt8), (110 : UInt8), (61 : UInt8)] = true → (okD (trimP (hdS (tlS (tlS (spS (textC s t f l p) (32 : UInt8))))) [(102 : UInt8), (97 : UInt8), (110 : UInt8), (61 : UInt8)]) = true → (yLt (1048576 : Int) (decI (trimP (hdS (tlS (tlS (spS (textC s t f l p) (32 : UInt8))))) [(102 : UInt8), (97 : UInt8), (110 : UInt8), (61 : UInt8)]) (yLen (trimP (hdS (tlS (tlS (spS (textC s t f l p) (32 : UInt8))))) [(102 : UInt8), (97 : UInt8), (110 : UInt8), (61 : UInt8)]))) = true → (hasP (hdS (tlS (tlS (tlS (spS (textC s t f l p) (32 : UInt8)))))) [(108 : UInt8), (105 : UInt8), (109 : UInt8), (98 : UInt8), (111 : UInt8), (61 : UInt8)] = true → (okD (trimP (hdS (tlS (tlS (tlS (spS (textC s t f l p) (32 : UInt8)))))) [(108 : UInt8), (105 : UInt8), (109 : UInt8), (98 : UInt8), (111 : UInt8), (61 : UInt8)]) = true → (yLt (1048576 : Int) (decI (trimP (hdS (tlS (tlS (tlS (spS (textC s t f l p) (32 : UInt8)))))) [(108 : UInt8), (105 : UInt8), (109 : UInt8), (98 : UInt8), (111 : UInt8), (61 : UInt8)]) (yLen (trimP (hdS (tlS (tlS (tlS (spS (textC s t f l p) (32 : UInt8)))))) [(108 : UInt8), (105 : UInt8), (109 : UInt8), (98 : UInt8), (111 : UInt8), (61 : UInt8)]))) = true → (hasP (hdS (tlS (tlS (tlS (tlS (spS (textC s t f l p) (32 : UInt8))))))) [(112 : UInt8), (97 : UInt8), (116 : UInt8), (105 : UInt8), (101 : UInt8), (110 : UInt8), (99 : UInt8), (101 : UInt8), (61 : UInt8)] = true → (okD (trimP (hdS (tlS (tlS (tlS (tlS (spS (textC s t f l p) (32 : UInt8))))))) [(112 : UInt8), (97 : UInt8), (116 : UInt8), (105 : UInt8), (101 : UInt8), (110 : UInt8), (99 : UInt8), (101 : UInt8), (61 : UInt8)]) = true → (yLt (1048576 : Int) (decI (trimP (hdS (tlS (tlS (tlS (tlS (spS (textC s t f l p) (32 : UInt8))))))) [(112 : UInt8), (97 : UInt8), (116 : UInt8), (105 : UInt8), (101 : UInt8), (110 : UInt8), (99 : UInt8), (101 : UInt8), (61 : UInt8)]) (yLen (trimP (hdS (tlS (tlS (tlS (tlS (spS (textC s t f l p) (32 : UInt8))))))) [(112 : UInt8), (97 : UInt8), (116 : UInt8), (105 : UInt8), (101 : UInt8), (110 : UInt8), (99 : UInt8), (101 : UInt8), (61 : UInt8)]))) = true → (true = true → (yLe (0 : Int) (wrongC s t f l p) = true → true = false) ∧ (yLe (0 : Int) (wrongC s t f l p) = false → (yAnd (yEq (0 : Int) s) (yAnd (yEq (0 : Int) t) (yAnd (yEq (0 : Int) f) (yAnd (yEq (0 : Int) l) (yAnd (yEq (0 : Int) p) true)))) = true → true = false) ∧ (yAnd (yEq (0 : Int) s) (yAnd (yEq (0 : Int) t) (yAnd (yEq (0 : Int) f) (yAnd (yEq (0 : Int) l) (yAnd (yEq (0 : Int) p) true)))) = false → true = false))) ∧ (true = false → False)) ∧ (yLt (1048576 : Int) (decI (trimP (hdS (tlS (tlS (tlS (tlS (spS (textC s t f l p) (32 : UInt8))))))) [(112 : UInt8), (97 : UInt8), (116 : UInt8), (105 : UInt8), (101 : UInt8), (110 : UInt8), (99 : UInt8), (101 : UInt8), (61 : UInt8)]) (yLen (trimP (hdS (tlS (tlS (tlS (tlS (spS (textC s t f l p) (32 : UInt8))))))) [(112 : UInt8), (97 : UInt8), (116 : UInt8), (105 : UInt8), (101 : UInt8), (110 : UInt8), (99 : UInt8), (101 : UInt8), (61 : UInt8)]))) = false → (true = true → (yLe (0 : Int) (wrongC s t f l p) = true → true = false) ∧ (yLe (0 : Int) (wrongC s t f l p) = false → (yAnd (yEq (0 : Int) s) (yAnd (yEq (0 : Int) t) (yAnd (yEq (0 : Int) f) (yAnd (yEq (0 : Int) l) (yAnd (yEq (0 : Int) p) true)))) = true → true = false) ∧ (yAnd (yEq (0 : Int) s) (yAnd (yEq (0 : Int) t) (yAnd (yEq (0 : Int) f) (yAnd (yEq (0 : Int) l) (yAnd (yEq (0 : Int) p) true)))) = false → true = false))) ∧ (true = false → False))) ∧ (okD (trimP (hdS (tlS (tlS (tlS (tlS (spS (textC s t f l p) (32 : UInt8))))))) [(112 : UInt8), (97 : UInt8), (116 : UInt8), (105 : UInt8), (101 : UInt8), (110 : UInt8), (99 : UInt8), (101 : UInt8), (61 : UInt8)]) = false → False)) ∧ (hasP (hdS (tlS (tlS (tlS (tlS (spS (textC s t f l p) (32 : UInt8))))))) [(112 : UInt8), (97 : UInt8), (116 : UInt8), (105 : UInt8), (101 : UInt8), (110 : UInt8), (99 : UInt8), (101 : UInt8), (61 : UInt8)] = false → False)) ∧ (yLt (1048576 : Int) (decI (trimP (hdS (tlS (tlS (tlS (spS (textC s t f l p) (32 : UInt8)))))) [(108 : UInt8), (105 : UInt8), (109 : UInt8), (98 : UInt8), (111 : UInt8), (61 : UInt8)]) (yLen (trimP (hdS (tlS (tlS (tlS (spS (textC s t f l p) (32 : UInt8)))))) [(108 : UInt8), (105 : UInt8), (109 : UInt8), (98 : UInt8), (111 : UInt8), (61 : UInt8)]))) = false → (hasP (hdS (tlS (tlS (tlS (tlS (spS (textC s t f l p) (32 : UInt8))))))) [(112 : UInt8), (97 : UInt8), (116 : UInt8), (105 : UInt8), (101 : UInt8), (110 : UInt8), (99 : UInt8), (101 : UInt8), (61 : UInt8)] = true → (okD (trimP (hdS (tlS (tlS (tlS (tlS (spS (textC s t f l p) (32 : UInt8))))))) [(112 : UInt8), (97 : UInt8), (116 : UInt8), (105 : UInt8), (101 : UInt8), (110 : UInt8), (99 : UInt8), (101 : UInt8), (61 : UInt8)]) = true → (yLt (1048576 : Int) (decI (trimP (hdS (tlS (tlS (tlS (tlS (spS (textC s t f l p) (32 : UInt8))))))) [(112 : UInt8), (97 : UInt8), (116 : UInt8), (105 : UInt8), (101 : UInt8), (110 : UInt8), (99 : UInt8), (101 : UInt8), (61 : UInt8)]) (yLen (trimP (hdS (tlS (tlS (tlS (tlS (spS (textC s t f l p) (32 : UInt8))))))) [(112 : UInt8), (97 : UInt8), (116 : UInt8), (105 : UInt8), (101 : UInt8), (110 : UInt8), (99 : UInt8), (101 : UInt8), (61 : UInt8)]))) = true → (true = true → (yLe (0 : Int) (wrongC s t f l p) = true → true = false) ∧ (yLe (0 : Int) (wrongC s t f l p) = false → (yAnd (yEq (0 : Int) s) (yAnd (yEq (0 : Int) t) (yAnd (yEq (0 : Int) f) (yAnd (yEq (0 : Int) l) (yAnd (yEq (0 : Int) p) true)))) = true → true = false) ∧ (yAnd (yEq (0 : Int) s) (yAnd (yEq (0 : Int) t) (yAnd (yEq (0 : Int) f) (yAnd (yEq (0 : Int) l) (yAnd (yEq (0 : Int) p) true)))) = false → true = false))) ∧ (true = false → False)) ∧ (yLt (1048576 : Int) (decI (trimP (hdS (tlS (tlS (tlS (tlS (spS (textC s t f l p) (32 : UInt8))))))) [(112 : UInt8), (97 : UInt8), (116 : UInt8), (105 : UInt8), (101 : UInt8), (110 : UInt8), (99 : UInt8), (101 : UInt8), (61 : UInt8)]) (yLen (trimP (hdS (tlS (tlS (tlS (tlS (spS (textC s t f l p) (32 : UInt8))))))) [(112 : UInt8), (97 : UInt8), (116 : UInt8), (105 : UInt8), (101 : UInt8), (110 : UInt8), (99 : UInt8), (101 : UInt8), (61 : UInt8)]))) = false → (true = true → (yLe (0 : Int) (wrongC s t f l p) = true → true = false) ∧ (yLe (0 : Int) (wrongC s t f l p) = false → (yAnd (yEq (0 : Int) s) (yAnd (yEq (0 : Int) t) (yAnd (yEq (0 : Int) f) (yAnd (yEq (0 : Int) l) (yAnd (yEq (0 : Int) p) true)))) = true → true = false) ∧ (yAnd (yEq (0 : Int) s) (yAnd (yEq (0 : Int) t) (yAnd (yEq (0 : Int) f) (yAnd (yEq (0 : Int) l) (yAnd (yEq (0 : Int) p) true)))) = false → true = false))) ∧ (true = false → False))) ∧ (okD (trimP (hdS (tlS (tlS (tlS (tlS (spS (textC s t f l p) (32 : UInt8))))))) [(112 : UInt8), (97 : UInt8), (116 : UInt8), (105 : UInt8), (101 : UInt8), (110 : UInt8), (99 : UInt8), (101 : UInt8), (61 : UInt8)]) = false → False)) ∧ (hasP (hdS (tlS (tlS (tlS (tlS (spS (textC s t f l p) (32 : UInt8))))))) [(112 : UInt8), (97 : UInt8), (116 : UInt8), (105 : UInt8), (101 : UInt8), (110 : UInt8), (99 : UInt8), (101 : UInt8), (61 : UInt8)] = false → False))) ∧ (okD (trimP (hdS (tlS (tlS (tlS (spS (textC s t f l p) (32 : UInt8)))))) [(108 : UInt8), (105 : UInt8), (109 : UInt8), (98 : UInt8), (111 : UInt8), (61 : UInt8)]) = false → False)) ∧ (hasP (hdS (tlS (tlS (tlS (spS (textC s t f l p) (32 : UInt8)))))) [(108 : UInt8), (105 : UInt8), (109 : UInt8), (98 : UInt8), (111 : UInt8), (61 : UInt8)] = false → False)) ∧ (yLt (1048576 : Int) (decI (trimP (hdS (tlS (tlS (spS (textC s t f l p) (32 : UInt8))))) [(102 : UInt8), (97 : UInt8), (110 : UInt8), (61 : UInt8)]) (yLen (trimP (hdS (tlS (tlS (spS (textC s t f l p) (32 : UInt8))))) [(102 : UInt8), (97 : UInt8), (110 : UInt8), (61 : UInt8)]))) = false → (hasP (hdS (tlS (tlS (tlS (spS (textC s t f l p) (32 : UInt8)))))) [(108 : UInt8), (105 : UInt8), (109 : UInt8), (98 : UInt8), (111 : UInt8), (61 : UInt8)] = true → (okD (trimP (hdS (tlS (tlS (tlS (spS (textC s t f l p) (32 : UInt8)))))) [(108 : UInt8), (105 : UInt8), (109 : UInt8), (98 : UInt8), (111 : UInt8), (61 : UInt8)]) = true → (yLt (1048576 : Int) (decI (trimP (hdS (tlS (tlS (tlS (spS (textC s t f l p) (32 : UInt8)))))) [(108 : UInt8), (105 : UInt8), (109 : UInt8), (98 : UInt8), (111 : UInt8), (61 : UInt8)]) (yLen (trimP (hdS (tlS (tlS (tlS (spS (textC s t f l p) (32 : UInt8)))))) [(108 : UInt8), (105 : UInt8), (109 : UInt8), (98 : UInt8), (111 : UInt8), (61 : UInt8)]))) = true → (hasP (hdS (tlS (tlS (tlS (tlS (spS (textC s t f l p) (32 : UInt8))))))) [(112 : UInt8), (97 : UInt8), (116 : UInt8), (105 : UInt8), (101 : UInt8), (110 : UInt8), (99 : UInt8), (101 : UInt8), (61 : UInt8)] = true → (okD (trimP (hdS (tlS (tlS (tlS (tlS (spS (textC s t f l p) (32 : UInt8))))))) [(112 : UInt8), (97 : UInt8), (116 : UInt8), (105 : UInt8), (101 : UInt8), (110 : UInt8), (99 : UInt8), (101 : UInt8), (61 : UInt8)]) = true → (yLt (1048576 : Int) (decI (trimP (hdS (tlS (tlS (tlS (tlS (spS (textC s t f l p) (32 : UInt8))))))) [(112 : UInt8), (97 : UInt8), (116 : UInt8), (105 : UInt8), (101 : UInt8), (110 : UInt8), (99 : UInt8), (101 : UInt8), (61 : UInt8)]) (yLen (trimP (hdS (tlS (tlS (tlS (tlS (spS (textC s t f l p) (32 : UInt8))))))) [(112 : UInt8), (97 : UInt8), (116 : UInt8), (105 : UInt8), (101 : UInt8), (110 : UInt8), (99 : UInt8), (101 : UInt8), (61 : UInt8)]))) = true → (true = true → (yLe (0 : Int) (wrongC s t f l p) = true → true = false) ∧ (yLe (0 : Int) (wrongC s t f l p) = false → (yAnd (yEq (0 : Int) s) (yAnd (yEq (0 : Int) t) (yAnd (yEq (0 : Int) f) (yAnd (yEq (0 : Int) l) (yAnd (yEq (0 : Int) p) true)))) = true → true = false) ∧ (yAnd (yEq (0 : Int) s) (yAnd (yEq (0 : Int) t) (yAnd (yEq (0 : Int) f) (yAnd (yEq (0 : Int) l) (yAnd (yEq (0 : Int) p) true)))) = false → true = false))) ∧ (true = false → False)) ∧ (yLt (1048576 : Int) (decI (trimP (hdS (tlS (tlS (tlS (tlS (spS (textC s t f l p) (32 : UInt8))))))) [(112 : UInt8), (97 : UInt8), (116 : UInt8), (105 : UInt8), (101 : UInt8), (110 : UInt8), (99 : UInt8), (101 : UInt8), (61 : UInt8)]) (yLen (trimP (hdS (tlS (tlS (tlS (tlS (spS (textC s t f l p) (32 : UInt8))))))) [(112 : UInt8), (97 : UInt8), (116 : UInt8), (105 : UInt8), (101 : UInt8), (110 : UInt8), (99 : UInt8), (101 : UInt8), (61 : UInt8)]))) = false → (true = true → (yLe (0 : Int) (wrongC s t f l p) = true → true = false) ∧ (yLe (0 : Int) (wrongC s t f l p) = false → (yAnd (yEq (0 : Int) s) (yAnd (yEq (0 : Int) t) (yAnd (yEq (0 : Int) f) (yAnd (yEq (0 : Int) l) (yAnd (yEq (0 : Int) p) true)))) = true → true = false) ∧ (yAnd (yEq (0 : Int) s) (yAnd (yEq (0 : Int) t) (yAnd (yEq (0 : Int) f) (yAnd (yEq (0 : Int) l) (yAnd (yEq (0 : Int) p) true)))) = false → true = false))) ∧ (true = false → False))) ∧ (okD (trimP (hdS (tlS (tlS (tlS (tlS (spS (textC s t f l p) (32 : UInt8))))))) [(112 : UInt8), (97 : UInt8), (116 : UInt8), (105 : UInt8), (101 : UInt8), (110 : UInt8), (99 : UInt8), (101 : UInt8), (61 : UInt8)]) = false → False)) ∧ (hasP (hdS (tlS (tlS (tlS (tlS (spS (textC s t f l p) (32 : UInt8))))))) [(112 : UInt8), (97 : UInt8), (116 : UInt8), (105 : UInt8), (101 : UInt8), (110 : UInt8), (99 : UInt8), (101 : UInt8), (61 : UInt8)] = false → False)) ∧ (yLt (1048576 : Int) (decI (trimP (hdS (tlS (tlS (tlS (spS (textC s t f l p) (32 : UInt8)))))) [(108 : UInt8), (105 : UInt8), (109 : UInt8), (98 : UInt8), (111 : UInt8), (61 : UInt8)]) (yLen (trimP (hdS (tlS (tlS (tlS (spS (textC s t f l p) (32 : UInt8)))))) [(108 : UInt8), (105 : UInt8), (109 : UInt8), (98 : UInt8), (111 : UInt8), (61 : UInt8)]))) = false → (hasP (hdS (tlS (tlS (tlS (tlS (spS (textC s t f l p) (32 : UInt8))))))) [(112 : UInt8), (97 : UInt8), (116 : UInt8), (105 : UInt8), (101 : UInt8), (110 : UInt8), (99 : UInt8), (101 : UInt8), (61 : UInt8)] = true → (okD (trimP (hdS (tlS (tlS (tlS (tlS (spS (textC s t f l p) (32 : UInt8))))))) [(112 : UInt8), (97 : UInt8), (116 : UInt8), (105 : UInt8), (101 : UInt8), (110 : UInt8), (99 : UInt8), (101 : UInt8), (61 : UInt8)]) = true → (yLt (1048576 : Int) (decI (trimP (hdS (tlS (tlS (tlS (tlS (spS (textC s t f l p) (32 : UInt8))))))) [(112 : UInt8), (97 : UInt8), (116 : UInt8), (105 : UInt8), (101 : UInt8), (110 : UInt8), (99 : UInt8), (101 : UInt8), (61 : UInt8)]) (yLen (trimP (hdS (tlS (tlS (tlS (tlS (spS (textC s t f l p) (32 : UInt8))))))) [(112 : UInt8), (97 : UInt8), (116 : UInt8), (105 : UInt8), (101 : UInt8), (110 : UInt8), (99 : UInt8), (101 : UInt8), (61 : UInt8)]))) = true → (true = true → (yLe (0 : Int) (wrongC s t f l p) = true → true = false) ∧ (yLe (0 : Int) (wrongC s t f l p) = false → (yAnd (yEq (0 : Int) s) (yAnd (yEq (0 : Int) t) (yAnd (yEq (0 : Int) f) (yAnd (yEq (0 : Int) l) (yAnd (yEq (0 : Int) p) true)))) = true → true = false) ∧ (yAnd (yEq (0 : Int) s) (yAnd (yEq (0 : Int) t) (yAnd (yEq (0 : Int) f) (yAnd (yEq (0 : Int) l) (yAnd (yEq (0 : Int) p) true)))) = false → true = false))) ∧ (true = false → False)) ∧ (yLt (1048576 : Int) (decI (trimP (hdS (tlS (tlS (tlS (tlS (spS (textC s t f l p) (32 : UInt8))))))) [(112 : UInt8), (97 : UInt8), (116 : UInt8), (105 : UInt8), (101 : UInt8), (110 : UInt8), (99 : UInt8), (101 : UInt8), (61 : UInt8)]) (yLen (trimP (hdS (tlS (tlS (tlS (tlS (spS (textC s t f l p) (32 : UInt8))))))) [(112 : UInt8), (97 : UInt8), (116 : UInt8), (105 : UInt8), (101 : UInt8), (110 : UInt8), (99 : UInt8), (101 : UInt8), (61 : UInt8)]))) = false → (true = true → (yLe (0 : Int) (wrongC s t f l p) = true → true = false) ∧ (yLe (0 : Int) (wrongC s t f l p) = false → (yAnd (yEq (0 : Int) s) (yAnd (yEq (0 : Int) t) (yAnd (yEq (0 : Int) f) (yAnd (yEq (0 : Int) l) (yAnd (yEq (0 : Int) p) true)))) = true → true = false) ∧ (yAnd (yEq (0 : Int) s) (yAnd (yEq (0 : Int) t) (yAnd (yEq (0 : Int) f) (yAnd (yEq (0 : Int) l) (yAnd (yEq (0 : Int) p) true)))) = false → true = false))) ∧ (true = false → False))) ∧ (okD (trimP (hdS (tlS (tlS (tlS (tlS (spS (textC s t f l p) (32 : UInt8))))))) [(112 : UInt8), (97 : UInt8), (116 : UInt8), (105 : UInt8), (101 : UInt8), (110 : UInt8), (99 : UInt8), (101 : UInt8), (61 : UInt8)]) = false → False)) ∧ (hasP (hdS (tlS (tlS (tlS (tlS (spS (textC s t f l p) (32 : UInt8))))))) [(112 : UInt8), (97 : UInt8), (116 : UInt8), (105 : UInt8), (101 : UInt8), (110 : UInt8), (99 : UInt8), (101 : UInt8), (61 : UInt8)] = false → False))) ∧ (okD (trimP (hdS (tlS (tlS (tlS (spS (textC s t f l p) (32 : UInt8)))))) [(108 : UInt8), (105 : UInt8), (109 : UInt8), (98 : UInt8), (111 : UInt8), (61 : UInt8)]) = false → False)) ∧ (hasP (hdS (tlS (tlS (tlS (spS (textC s t f l p) (32 : UInt8)))))) [(108 : UInt8), (105 : UInt8), (109 : UInt8), (98 : UInt8), (111 : UInt8), (61 : UInt8)] = false → False))) ∧ (okD (trimP (hdS (tlS (tlS (spS (textC s t f l p) (32 : UInt8))))) [(102 : UInt8), (97 : UInt8), (110 : UInt8), (61 : UInt8)]) = false → False)) ∧ (hasP (hdS (tlS (tlS (spS (textC s t f l p) (32 : UInt8))))) [(102 : UInt8), (97 : UInt8), (110 : UInt8), (61 : UInt8)] = false → False)) ∧ (yLt (1048576 : Int) (decI (trimP (hdS (tlS (spS (textC s t f l p) (32 : UInt8)))) [(116 : UInt8), (104 : UInt8), (114 : UInt8), (101 : UInt8), (97 : UInt8), (100 : UInt8), (115 : UInt8), (61 : UInt8)]) (yLen (trimP (hdS (tlS (spS (textC s t f l p) (32 : UInt8)))) [(116 : UInt8), (104 : UInt8), (114 : UInt8), (101 : UInt8), (97 : UInt8), (100 : UInt8), (115 : UInt8), (61 : UInt8)]))) = false → (hasP (hdS (tlS (tlS (spS (textC s t f l p) (32 : UInt8))))) [(102 : UInt8), (97 : UInt8), (110 : UInt8), (61 : UInt8)] = true → (okD (trimP (hdS (tlS (tlS (spS (textC s t f l p) (32 : UInt8))))) [(102 : UInt8), (97 : UInt8), (110 : UInt8), (61 : UInt8)]) = true → (yLt (1048576 : Int) (decI (trimP (hdS (tlS (tlS (spS (textC s t f l p) (32 : UInt8))))) [(102 : UInt8), (97 : UInt8), (110 : UInt8), (61 : UInt8)]) (yLen (trimP (hdS (tlS (tlS (spS (textC s t f l p) (32 : UInt8))))) [(102 : UInt8), (97 : UInt8), (110 : UInt8), (61 : UInt8)]))) = true → (hasP (hdS (tlS (tlS (tlS (spS (textC s t f l p) (32 : UInt8)))))) [(108 : UInt8), (105 : UInt8), (109 : UInt8), (98 : UInt8), (111 : UInt8), (61 : UInt8)] = true → (okD (trimP (hdS (tlS (tlS (tlS (spS (textC s t f l p) (32 : UInt8)))))) [(108 : UInt8), (105 : UInt8), (109 : UInt8), (98 : UInt8), (111 : UInt8), (61 : UInt8)]) = true → (yLt (1048576 : Int) (decI (trimP (hdS (tlS (tlS (tlS (spS (textC s t f l p) (32 : UInt8)))))) [(108 : UInt8), (105 : UInt8), (109 : UInt8), (98 : UInt8), (111 : UInt8), (61 : UInt8)]) (yLen (trimP (hdS (tlS (tlS (tlS (spS (textC s t f l p) (32 : UInt8)))))) [(108 : UInt8), (105 : UInt8), (109 : UInt8), (98 : UInt8), (111 : UInt8), (61 : UInt8)]))) = true → (hasP (hdS (tlS (tlS (tlS (tlS (spS (textC s t f l p) (32 : UInt8))))))) [(112 : UInt8), (97 : UInt8), (116 : UInt8), (105 : UInt8), (101 : UInt8), (110 : UInt8), (99 : UInt8), (101 : UInt8), (61 : UInt8)] = true → (okD (trimP (hdS (tlS (tlS (tlS (tlS (spS (textC s t f l p) (32 : UInt8))))))) [(112 : UInt8), (97 : UInt8), (116 : UInt8), (105 : UInt8), (101 : UInt8), (110 : UInt8), (99 : UInt8), (101 : UInt8), (61 : UInt8)]) = true → (yLt (1048576 : Int) (decI (trimP (hdS (tlS (tlS (tlS (tlS (spS (textC s t f l p) (32 : UInt8))))))) [(112 : UInt8), (97 : UInt8), (116 : UInt8), (105 : UInt8), (101 : UInt8), (110 : UInt8), (99 : UInt8), (101 : UInt8), (61 : UInt8)]) (yLen (trimP (hdS (tlS (tlS (tlS (tlS (spS (textC s t f l p) (32 : UInt8))))))) [(112 : UInt8), (97 : UInt8), (116 : UInt8), (105 : UInt8), (101 : UInt8), (110 : UInt8), (99 : UInt8), (101 : UInt8), (61 : UInt8)]))) = true → (true = true → (yLe (0 : Int) (wrongC s t f l p) = true → true = false) ∧ (yLe (0 : Int) (wrongC s t f l p) = false → (yAnd (yEq (0 : Int) s) (yAnd (yEq (0 : Int) t) (yAnd (yEq (0 : Int) f) (yAnd (yEq (0 : Int) l) (yAnd (yEq (0 : Int) p) true)))) = true → true = false) ∧ (yAnd (yEq (0 : Int) s) (yAnd (yEq (0 : Int) t) (yAnd (yEq (0 : Int) f) (yAnd (yEq (0 : Int) l) (yAnd (yEq (0 : Int) p) true)))) = false → true = false))) ∧ (true = false → False)) ∧ (yLt (1048576 : Int) (decI (trimP (hdS (tlS (tlS (tlS (tlS (spS (textC s t f l p) (32 : UInt8))))))) [(112 : UInt8), (97 : UInt8), (116 : UInt8), (105 : UInt8), (101 : UInt8), (110 : UInt8), (99 : UInt8), (101 : UInt8), (61 : UInt8)]) (yLen (trimP (hdS (tlS (tlS (tlS (tlS (spS (textC s t f l p) (32 : UInt8))))))) [(112 : UInt8), (97 : UInt8), (116 : UInt8), (105 : UInt8), (101 : UInt8), (110 : UInt8), (99 : UInt8), (101 : UInt8), (61 : UInt8)]))) = false → (true = true → (yLe (0 : Int) (wrongC s t f l p) = true → true = false) ∧ (yLe (0 : Int) (wrongC s t f l p) = false → (yAnd (yEq (0 : Int) s) (yAnd (yEq (0 : Int) t) (yAnd (yEq (0 : Int) f) (yAnd (yEq (0 : Int) l) (yAnd (yEq (0 : Int) p) true)))) = true → true = false) ∧ (yAnd (yEq (0 : Int) s) (yAnd (yEq (0 : Int) t) (yAnd (yEq (0 : Int) f) (yAnd (yEq (0 : Int) l) (yAnd (yEq (0 : Int) p) true)))) = false → true = false))) ∧ (true = false → False))) ∧ (okD (trimP (hdS (tlS (tlS (tlS (tlS (spS (textC s t f l p) (32 : UInt8))))))) [(112 : UInt8), (97 : UInt8), (116 : UInt8), (105 : UInt8), (101 : UInt8), (110 : UInt8), (99 : UInt8), (101 : UInt8), (61 : UInt8)]) = false → False)) ∧ (hasP (hdS (tlS (tlS (tlS (tlS (spS (textC s t f l p) (32 : UInt8))))))) [(112 : UInt8), (97 : UInt8), (116 : UInt8), (105 : UInt8), (101 : UInt8), (110 : UInt8), (99 : UInt8), (101 : UInt8), (61 : UInt8)] = false → False)) ∧ (yLt (1048576 : Int) (decI (trimP (hdS (tlS (tlS (tlS (spS (textC s t f l p) (32 : UInt8)))))) [(108 : UInt8), (105 : UInt8), (109 : UInt8), (98 : UInt8), (111 : UInt8), (61 : UInt8)]) (yLen (trimP (hdS (tlS (tlS (tlS (spS (textC s t f l p) (32 : UInt8)))))) [(108 : UInt8), (105 : UInt8), (109 : UInt8), (98 : UInt8), (111 : UInt8), (61 : UInt8)]))) = false → (hasP (hdS (tlS (tlS (tlS (tlS (spS (textC s t f l p) (32 : UInt8))))))) [(112 : UInt8), (97 : UInt8), (116 : UInt8), (105 : UInt8), (101 : UInt8), (110 : UInt8), (99 : UInt8), (101 : UInt8), (61 : UInt8)] = true → (okD (trimP (hdS (tlS (tlS (tlS (tlS (spS (textC s t f l p) (32 : UInt8))))))) [(112 : UInt8), (97 : UInt8), (116 : UInt8), (105 : UInt8), (101 : UInt8), (110 : UInt8), (99 : UInt8), (101 : UInt8), (61 : UInt8)]) = true → (yLt (1048576 : Int) (decI (trimP (hdS (tlS (tlS (tlS (tlS (spS (textC s t f l p) (32 : UInt8))))))) [(112 : UInt8), (97 : UInt8), (116 : UInt8), (105 : UInt8), (101 : UInt8), (110 : UInt8), (99 : UInt8), (101 : UInt8), (61 : UInt8)]) (yLen (trimP (hdS (tlS (tlS (tlS (tlS (spS (textC s t f l p) (32 : UInt8))))))) [(112 : UInt8), (97 : UInt8), (116 : UInt8), (105 : UInt8), (101 : UInt8), (110 : UInt8), (99 : UInt8), (101 : UInt8), (61 : UInt8)]))) = true → (true = true → (yLe (0 : Int) (wrongC s t f l p) = true → true = false) ∧ (yLe (0 : Int) (wrongC s t f l p) = false → (yAnd (yEq (0 : Int) s) (yAnd (yEq (0 : Int) t) (yAnd (yEq (0 : Int) f) (yAnd (yEq (0 : Int) l) (yAnd (yEq (0 : Int) p) true)))) = true → true = false) ∧ (yAnd (yEq (0 : Int) s) (yAnd (yEq (0 : Int) t) (yAnd (yEq (0 : Int) f) (yAnd (yEq (0 : Int) l) (yAnd (yEq (0 : Int) p) true)))) = false → true = false))) ∧ (true = false → False)) ∧ (yLt (1048576 : Int) (decI (trimP (hdS (tlS (tlS (tlS (tlS (spS (textC s t f l p) (32 : UInt8))))))) [(112 : UInt8), (97 : UInt8), (116 : UInt8), (105 : UInt8), (101 : UInt8), (110 : UInt8), (99 : UInt8), (101 : UInt8), (61 : UInt8)]) (yLen (trimP (hdS (tlS (tlS (tlS (tlS (spS (textC s t f l p) (32 : UInt8))))))) [(112 : UInt8), (97 : UInt8), (116 : UInt8), (105 : UInt8), (101 : UInt8), (110 : UInt8), (99 : UInt8), (101 : UInt8), (61 : UInt8)]))) = false → (true = true → (yLe (0 : Int) (wrongC s t f l p) = true → true = false) ∧ (yLe (0 : Int) (wrongC s t f l p) = false → (yAnd (yEq (0 : Int) s) (yAnd (yEq (0 : Int) t) (yAnd (yEq (0 : Int) f) (yAnd (yEq (0 : Int) l) (yAnd (yEq (0 : Int) p) true)))) = true → true = false) ∧ (yAnd (yEq (0 : Int) s) (yAnd (yEq (0 : Int) t) (yAnd (yEq (0 : Int) f) (yAnd (yEq (0 : Int) l) (yAnd (yEq (0 : Int) p) true)))) = false → true = false))) ∧ (true = false → False))) ∧ (okD (trimP (hdS (tlS (tlS (tlS (tlS (spS (textC s t f l p) (32 : UInt8))))))) [(112 : UInt8), (97 : UInt8), (116 : UInt8), (105 : UInt8), (101 : UInt8), (110 : UInt8), (99 : UInt8), (101 : UInt8), (61 : UInt8)]) = false → False)) ∧ (hasP (hdS (tlS (tlS (tlS (tlS (spS (textC s t f l p) (32 : UInt8))))))) [(112 : UInt8), (97 : UInt8), (116 : UInt8), (105 : UInt8), (101 : UInt8), (110 : UInt8), (99 : UInt8), (101 : UInt8), (61 : UInt8)] = false → False))) ∧ (okD (trimP (hdS (tlS (tlS (tlS (spS (textC s t f l p) (32 : UInt8)))))) [(108 : UInt8), (105 : UInt8), (109 : UInt8), (98 : UInt8), (111 : UInt8), (61 : UInt8)]) = false → False)) ∧ (hasP (hdS (tlS (tlS (tlS (spS (textC s t f l p) (32 : UInt8)))))) [(108 : UInt8), (105 : UInt8), (109 : UInt8), (98 : UInt8), (111 : UInt8), (61 : UInt8)] = false → False)) ∧ (yLt (1048576 : Int) (decI (trimP (hdS (tlS (tlS (spS (textC s t f l p) (32 : UInt8))))) [(102 : UInt8), (97 : UInt8), (110 : UInt8), (61 : UInt8)]) (yLen (trimP (hdS (tlS (tlS (spS (textC s t f l p) (32 : UInt8))))) [(102 : UInt8), (97 : UInt8), (110 : UInt8), (61 : UInt8)]))) = false → (hasP (hdS (tlS (tlS (tlS (spS (textC s t f l p) (32 : UInt8)))))) [(108 : UInt8), (105 : UInt8), (109 : UInt8), (98 : UInt8), (111 : UInt8), (61 : UInt8)] = true → (okD (trimP (hdS (tlS (tlS (tlS (spS (textC s t f l p) (32 : UInt8)))))) [(108 : UInt8), (105 : UInt8), (109 : UInt8), (98 : UInt8), (111 : UInt8), (61 : UInt8)]) = true → (yLt (1048576 : Int) (decI (trimP (hdS (tlS (tlS (tlS (spS (textC s t f l p) (32 : UInt8)))))) [(108 : UInt8), (105 : UInt8), (109 : UInt8), (98 : UInt8), (111 : UInt8), (61 : UInt8)]) (yLen (trimP (hdS (tlS (tlS (tlS (spS (textC s t f l p) (32 : UInt8)))))) [(108 : UInt8), (105 : UInt8), (109 : UInt8), (98 : UInt8), (111 : UInt8), (61 : UInt8)]))) = true → (hasP (hdS (tlS (tlS (tlS (tlS (spS (textC s t f l p) (32 : UInt8))))))) [(112 : UInt8), (97 : UInt8), (116 : UInt8), (105 : UInt8), (101 : UInt8), (110 : UInt8), (99 : UInt8), (101 : UInt8), (61 : UInt8)] = true → (okD (trimP (hdS (tlS (tlS (tlS (tlS (spS (textC s t f l p) (32 : UInt8))))))) [(112 : UInt8), (97 : UInt8), (116 : UInt8), (105 : UInt8), (101 : UInt8), (110 : UInt8), (99 : UInt8), (101 : UInt8), (61 : UInt8)]) = true → (yLt (1048576 : Int) (decI (trimP (hdS (tlS (tlS (tlS (tlS (spS (textC s t f l p) (32 : UInt8))))))) [(112 : UInt8), (97 : UInt8), (116 : UInt8), (105 : UInt8), (101 : UInt8), (110 : UInt8), (99 : UInt8), (101 : UInt8), (61 : UInt8)]) (yLen (trimP (hdS (tlS (tlS (tlS (tlS (spS (textC s t f l p) (32 : UInt8))))))) [(112 : UInt8), (97 : UInt8), (116 : UInt8), (105 : UInt8), (101 : UInt8), (110 : UInt8), (99 : UInt8), (101 : UInt8), (61 : UInt8)]))) = true → (true = true → (yLe (0 : Int) (wrongC s t f l p) = true → true = false) ∧ (yLe (0 : Int) (wrongC s t f l p) = false → (yAnd (yEq (0 : Int) s) (yAnd (yEq (0 : Int) t) (yAnd (yEq (0 : Int) f) (yAnd (yEq (0 : Int) l) (yAnd (yEq (0 : Int) p) true)))) = true → true = false) ∧ (yAnd (yEq (0 : Int) s) (yAnd (yEq (0 : Int) t) (yAnd (yEq (0 : Int) f) (yAnd (yEq (0 : Int) l) (yAnd (yEq (0 : Int) p) true)))) = false → true = false))) ∧ (true = false → False)) ∧ (yLt (1048576 : Int) (decI (trimP (hdS (tlS (tlS (tlS (tlS (spS (textC s t f l p) (32 : UInt8))))))) [(112 : UInt8), (97 : UInt8), (116 : UInt8), (105 : UInt8), (101 : UInt8), (110 : UInt8), (99 : UInt8), (101 : UInt8), (61 : UInt8)]) (yLen (trimP (hdS (tlS (tlS (tlS (tlS (spS (textC s t f l p) (32 : UInt8))))))) [(112 : UInt8), (97 : UInt8), (116 : UInt8), (105 : UInt8), (101 : UInt8), (110 : UInt8), (99 : UInt8), (101 : UInt8), (61 : UInt8)]))) = false → (true = true → (yLe (0 : Int) (wrongC s t f l p) = true → true = false) ∧ (yLe (0 : Int) (wrongC s t f l p) = false → (yAnd (yEq (0 : Int) s) (yAnd (yEq (0 : Int) t) (yAnd (yEq (0 : Int) f) (yAnd (yEq (0 : Int) l) (yAnd (yEq (0 : Int) p) true)))) = true → true = false) ∧ (yAnd (yEq (0 : Int) s) (yAnd (yEq (0 : Int) t) (yAnd (yEq (0 : Int) f) (yAnd (yEq (0 : Int) l) (yAnd (yEq (0 : Int) p) true)))) = false → true = false))) ∧ (true = false → False))) ∧ (okD (trimP (hdS (tlS (tlS (tlS (tlS (spS (textC s t f l p) (32 : UInt8))))))) [(112 : UInt8), (97 : UInt8), (116 : UInt8), (105 : UInt8), (101 : UInt8), (110 : UInt8), (99 : UInt8), (101 : UInt8), (61 : UInt8)]) = false → False)) ∧ (hasP (hdS (tlS (tlS (tlS (tlS (spS (textC s t f l p) (32 : UInt8))))))) [(112 : UInt8), (97 : UInt8), (116 : UInt8), (105 : UInt8), (101 : UInt8), (110 : UInt8), (99 : UInt8), (101 : UInt8), (61 : UInt8)] = false → False)) ∧ (yLt (1048576 : Int) (decI (trimP (hdS (tlS (tlS (tlS (spS (textC s t f l p) (32 : UInt8)))))) [(108 : UInt8), (105 : UInt8), (109 : UInt8), (98 : UInt8), (111 : UInt8), (61 : UInt8)]) (yLen (trimP (hdS (tlS (tlS (tlS (spS (textC s t f l p) (32 : UInt8)))))) [(108 : UInt8), (105 : UInt8), (109 : UInt8), (98 : UInt8), (111 : UInt8), (61 : UInt8)]))) = false → (hasP (hdS (tlS (tlS (tlS (tlS (spS (textC s t f l p) (32 : UInt8))))))) [(112 : UInt8), (97 : UInt8), (116 : UInt8), (105 : UInt8), (101 : UInt8), (110 : UInt8), (99 : UInt8), (101 : UInt8), (61 : UInt8)] = true → (okD (trimP (hdS (tlS (tlS (tlS (tlS (spS (textC s t f l p) (32 : UInt8))))))) [(112 : UInt8), (97 : UInt8), (116 : UInt8), (105 : UInt8), (101 : UInt8), (110 : UInt8), (99 : UInt8), (101 : UInt8), (61 : UInt8)]) = true → (yLt (1048576 : Int) (decI (trimP (hdS (tlS (tlS (tlS (tlS (spS (textC s t f l p) (32 : UInt8))))))) [(112 : UInt8), (97 : UInt8), (116 : UInt8), (105 : UInt8), (101 : UInt8), (110 : UInt8), (99 : UInt8), (101 : UInt8), (61 : UInt8)]) (yLen (trimP (hdS (tlS (tlS (tlS (tlS (spS (textC s t f l p) (32 : UInt8))))))) [(112 : UInt8), (97 : UInt8), (116 : UInt8), (105 : UInt8), (101 : UInt8), (110 : UInt8), (99 : UInt8), (101 : UInt8), (61 : UInt8)]))) = true → (true = true → (yLe (0 : Int) (wrongC s t f l p) = true → true = false) ∧ (yLe (0 : Int) (wrongC s t f l p) = false → (yAnd (yEq (0 : Int) s) (yAnd (yEq (0 : Int) t) (yAnd (yEq (0 : Int) f) (yAnd (yEq (0 : Int) l) (yAnd (yEq (0 : Int) p) true)))) = true → true = false) ∧ (yAnd (yEq (0 : Int) s) (yAnd (yEq (0 : Int) t) (yAnd (yEq (0 : Int) f) (yAnd (yEq (0 : Int) l) (yAnd (yEq (0 : Int) p) true)))) = false → true = false))) ∧ (true = false → False)) ∧ (yLt (1048576 : Int) (decI (trimP (hdS (tlS (tlS (tlS (tlS (spS (textC s t f l p) (32 : UInt8))))))) [(112 : UInt8), (97 : UInt8), (116 : UInt8), (105 : UInt8), (101 : UInt8), (110 : UInt8), (99 : UInt8), (101 : UInt8), (61 : UInt8)]) (yLen (trimP (hdS (tlS (tlS (tlS (tlS (spS (textC s t f l p) (32 : UInt8))))))) [(112 : UInt8), (97 : UInt8), (116 : UInt8), (105 : UInt8), (101 : UInt8), (110 : UInt8), (99 : UInt8), (101 : UInt8), (61 : UInt8)]))) = false → (true = true → (yNot (rightC (yWrap IntKind.i64 (decI (trimP (hdS (spS (textC s t f l p) (32 : UInt8))) [(115 : UInt8), (108 : UInt8), (111 : UInt8), (116 : UInt8), (115 : UInt8), (61 : UInt8)]) (yLen (trimP (hdS (spS (textC s t f l p) (32 : UInt8))) [(115 : UInt8), (108 : UInt8), (111 : UInt8), (116 : UInt8), (115 : UInt8), (61 : UInt8)])))) (yWrap IntKind.i64 (decI (trimP (hdS (tlS (spS (textC s t f l p) (32 : UInt8)))) [(116 : UInt8), (104 : UInt8), (114 : UInt8), (101 : UInt8), (97 : UInt8), (100 : UInt8), (115 : UInt8), (61 : UInt8)]) (yLen (trimP (hdS (tlS (spS (textC s t f l p) (32 : UInt8)))) [(116 : UInt8), (104 : UInt8), (114 : UInt8), (101 : UInt8), (97 : UInt8), (100 : UInt8), (115 : UInt8), (61 : UInt8)])))) (yWrap IntKind.i64 (decI (trimP (hdS (tlS (tlS (spS (textC s t f l p) (32 : UInt8))))) [(102 : UInt8), (97 : UInt8), (110 : UInt8), (61 : UInt8)]) (yLen (trimP (hdS (tlS (tlS (spS (textC s t f l p) (32 : UInt8))))) [(102 : UInt8), (97 : UInt8), (110 : UInt8), (61 : UInt8)])))) (yWrap IntKind.i64 (decI (trimP (hdS (tlS (tlS (tlS (spS (textC s t f l p) (32 : UInt8)))))) [(108 : UInt8), (105 : UInt8), (109 : UInt8), (98 : UInt8), (111 : UInt8), (61 : UInt8)]) (yLen (trimP (hdS (tlS (tlS (tlS (spS (textC s t f l p) (32 : UInt8)))))) [(108 : UInt8), (105 : UInt8), (109 : UInt8), (98 : UInt8), (111 : UInt8), (61 : UInt8)])))) (yWrap IntKind.i64 (decI (trimP (hdS (tlS (tlS (tlS (tlS (spS (textC s t f l p) (32 : UInt8))))))) [(112 : UInt8), (97 : UInt8), (116 : UInt8), (105 : UInt8), (101 : UInt8), (110 : UInt8), (99 : UInt8), (101 : UInt8), (61 : UInt8)]) (yLen (trimP (hdS (tlS (tlS (tlS (tlS (spS (textC s t f l p) (32 : UInt8))))))) [(112 : UInt8), (97 : UInt8), (116 : UInt8), (105 : UInt8), (101 : UInt8), (110 : UInt8), (99 : UInt8), (101 : UInt8), (61 : UInt8)]))))) = true → (true = true → (yLe (0 : Int) (wrongC s t f l p) = true → true = false) ∧ (yLe (0 : Int) (wrongC s t f l p) = false → (yAnd (yEq (0 : Int) s) (yAnd (yEq (0 : Int) t) (yAnd (yEq (0 : Int) f) (yAnd (yEq (0 : Int) l) (yAnd (yEq (0 : Int) p) true)))) = true → true = false) ∧ (yAnd (yEq (0 : Int) s) (yAnd (yEq (0 : Int) t) (yAnd (yEq (0 : Int) f) (yAnd (yEq (0 : Int) l) (yAnd (yEq (0 : Int) p) true)))) = false → true = false))) ∧ (true = false → False)) ∧ (yNot (rightC (yWrap IntKind.i64 (decI (trimP (hdS (spS (textC s t f l p) (32 : UInt8))) [(115 : UInt8), (108 : UInt8), (111 : UInt8), (116 : UInt8), (115 : UInt8), (61 : UInt8)]) (yLen (trimP (hdS (spS (textC s t f l p) (32 : UInt8))) [(115 : UInt8), (108 : UInt8), (111 : UInt8), (116 : UInt8), (115 : UInt8), (61 : UInt8)])))) (yWrap IntKind.i64 (decI (trimP (hdS (tlS (spS (textC s t f l p) (32 : UInt8)))) [(116 : UInt8), (104 : UInt8), (114 : UInt8), (101 : UInt8), (97 : UInt8), (100 : UInt8), (115 : UInt8), (61 : UInt8)]) (yLen (trimP (hdS (tlS (spS (textC s t f l p) (32 : UInt8)))) [(116 : UInt8), (104 : UInt8), (114 : UInt8), (101 : UInt8), (97 : UInt8), (100 : UInt8), (115 : UInt8), (61 : UInt8)])))) (yWrap IntKind.i64 (decI (trimP (hdS (tlS (tlS (spS (textC s t f l p) (32 : UInt8))))) [(102 : UInt8), (97 : UInt8), (110 : UInt8), (61 : UInt8)]) (yLen (trimP (hdS (tlS (tlS (spS (textC s t f l p) (32 : UInt8))))) [(102 : UInt8), (97 : UInt8), (110 : UInt8), (61 : UInt8)])))) (yWrap IntKind.i64 (decI (trimP (hdS (tlS (tlS (tlS (spS (textC s t f l p) (32 : UInt8)))))) [(108 : UInt8), (105 : UInt8), (109 : UInt8), (98 : UInt8), (111 : UInt8), (61 : UInt8)]) (yLen (trimP (hdS (tlS (tlS (tlS (spS (textC s t f l p) (32 : UInt8)))))) [(108 : UInt8), (105 : UInt8), (109 : UInt8), (98 : UInt8), (111 : UInt8), (61 : UInt8)])))) (yWrap IntKind.i64 (decI (trimP (hdS (tlS (tlS (tlS (tlS (spS (textC s t f l p) (32 : UInt8))))))) [(112 : UInt8), (97 : UInt8), (116 : UInt8), (105 : UInt8), (101 : UInt8), (110 : UInt8), (99 : UInt8), (101 : UInt8), (61 : UInt8)]) (yLen (trimP (hdS (tlS (tlS (tlS (tlS (spS (textC s t f l p) (32 : UInt8))))))) [(112 : UInt8), (97 : UInt8), (116 : UInt8), (105 : UInt8), (101 : UInt8), (110 : UInt8), (99 : UInt8), (101 : UInt8), (61 : UInt8)]))))) = false → (true = true → (yLe (0 : Int) (wrongC s t f l p) = true → (yAnd (yEq (yWrap IntKind.i64 (decI (trimP (hdS (spS (textC s t f l p) (32 : UInt8))) [(115 : UInt8), (108 : UInt8), (111 : UInt8), (116 : UInt8), (115 : UInt8), (61 : UInt8)]) (yLen (trimP (hdS (spS (textC s t f l p) (32 : UInt8))) [(115 : UInt8), (108 : UInt8), (111 : UInt8), (116 : UInt8), (115 : UInt8), (61 : UInt8)])))) (0 : Int)) (yAnd (yEq (yWrap IntKind.i64 (decI (trimP (hdS (tlS (spS (textC s t f l p) (32 : UInt8)))) [(116 : UInt8), (104 : UInt8), (114 : UInt8), (101 : UInt8), (97 : UInt8), (100 : UInt8), (115 : UInt8), (61 : UInt8)]) (yLen (trimP (hdS (tlS (spS (textC s t f l p) (32 : UInt8)))) [(116 : UInt8), (104 : UInt8), (114 : UInt8), (101 : UInt8), (97 : UInt8), (100 : UInt8), (115 : UInt8), (61 : UInt8)])))) (0 : Int)) (yAnd (yEq (yWrap IntKind.i64 (decI (trimP (hdS (tlS (tlS (spS (textC s t f l p) (32 : UInt8))))) [(102 : UInt8), (97 : UInt8), (110 : UInt8), (61 : UInt8)]) (yLen (trimP (hdS (tlS (tlS (spS (textC s t f l p) (32 : UInt8))))) [(102 : UInt8), (97 : UInt8), (110 : UInt8), (61 : UInt8)])))) (0 : Int)) (yAnd (yEq (yWrap IntKind.i64 (decI (trimP (hdS (tlS (tlS (tlS (spS (textC s t f l p) (32 : UInt8)))))) [(108 : UInt8), (105 : UInt8), (109 : UInt8), (98 : UInt8), (111 : UInt8), (61 : UInt8)]) (yLen (trimP (hdS (tlS (tlS (tlS (spS (textC s t f l p) (32 : UInt8)))))) [(108 : UInt8), (105 : UInt8), (109 : UInt8), (98 : UInt8), (111 : UInt8), (61 : UInt8)])))) (0 : Int)) (yAnd (yEq (yWrap IntKind.i64 (decI (trimP (hdS (tlS (tlS (tlS (tlS (spS (textC s t f l p) (32 : UInt8))))))) [(112 : UInt8), (97 : UInt8), (116 : UInt8), (105 : UInt8), (101 : UInt8), (110 : UInt8), (99 : UInt8), (101 : UInt8), (61 : UInt8)]) (yLen (trimP (hdS (tlS (tlS (tlS (tlS (spS (textC s t f l p) (32 : UInt8))))))) [(112 : UInt8), (97 : UInt8), (116 : UInt8), (105 : UInt8), (101 : UInt8), (110 : UInt8), (99 : UInt8), (101 : UInt8), (61 : UInt8)])))) (0 : Int)) true)))) = true → true = false) ∧ (yAnd (yEq (yWrap IntKind.i64 (decI (trimP (hdS (spS (textC s t f l p) (32 : UInt8))) [(115 : UInt8), (108 : UInt8), (111 : UInt8), (116 : UInt8), (115 : UInt8), (61 : UInt8)]) (yLen (trimP (hdS (spS (textC s t f l p) (32 : UInt8))) [(115 : UInt8), (108 : UInt8), (111 : UInt8), (116 : UInt8), (115 : UInt8), (61 : UInt8)])))) (0 : Int)) (yAnd (yEq (yWrap IntKind.i64 (decI (trimP (hdS (tlS (spS (textC s t f l p) (32 : UInt8)))) [(116 : UInt8), (104 : UInt8), (114 : UInt8), (101 : UInt8), (97 : UInt8), (100 : UInt8), (115 : UInt8), (61 : UInt8)]) (yLen (trimP (hdS (tlS (spS (textC s t f l p) (32 : UInt8)))) [(116 : UInt8), (104 : UInt8), (114 : UInt8), (101 : UInt8), (97 : UInt8), (100 : UInt8), (115 : UInt8), (61 : UInt8)])))) (0 : Int)) (yAnd (yEq (yWrap IntKind.i64 (decI (trimP (hdS (tlS (tlS (spS (textC s t f l p) (32 : UInt8))))) [(102 : UInt8), (97 : UInt8), (110 : UInt8), (61 : UInt8)]) (yLen (trimP (hdS (tlS (tlS (spS (textC s t f l p) (32 : UInt8))))) [(102 : UInt8), (97 : UInt8), (110 : UInt8), (61 : UInt8)])))) (0 : Int)) (yAnd (yEq (yWrap IntKind.i64 (decI (trimP (hdS (tlS (tlS (tlS (spS (textC s t f l p) (32 : UInt8)))))) [(108 : UInt8), (105 : UInt8), (109 : UInt8), (98 : UInt8), (111 : UInt8), (61 : UInt8)]) (yLen (trimP (hdS (tlS (tlS (tlS (spS (textC s t f l p) (32 : UInt8)))))) [(108 : UInt8), (105 : UInt8), (109 : UInt8), (98 : UInt8), (111 : UInt8), (61 : UInt8)])))) (0 : Int)) (yAnd (yEq (yWrap IntKind.i64 (decI (trimP (hdS (tlS (tlS (tlS (tlS (spS (textC s t f l p) (32 : UInt8))))))) [(112 : UInt8), (97 : UInt8), (116 : UInt8), (105 : UInt8), (101 : UInt8), (110 : UInt8), (99 : UInt8), (101 : UInt8), (61 : UInt8)]) (yLen (trimP (hdS (tlS (tlS (tlS (tlS (spS (textC s t f l p) (32 : UInt8))))))) [(112 : UInt8), (97 : UInt8), (116 : UInt8), (105 : UInt8), (101 : UInt8), (110 : UInt8), (99 : UInt8), (101 : UInt8), (61 : UInt8)])))) (0 : Int)) true)))) = false → true = false)) ∧ (yLe (0 : Int) (wrongC s t f l p) = false → (yAnd (yEq (yWrap IntKind.i64 (decI (trimP (hdS (spS (textC s t f l p) (32 : UInt8))) [(115 : UInt8), (108 : UInt8), (111 : UInt8), (116 : UInt8), (115 : UInt8), (61 : UInt8)]) (yLen (trimP (hdS (spS (textC s t f l p) (32 : UInt8))) [(115 : UInt8), (108 : UInt8), (111 : UInt8), (116 : UInt8), (115 : UInt8), (61 : UInt8)])))) s) (yAnd (yEq (yWrap IntKind.i64 (decI (trimP (hdS (tlS (spS (textC s t f l p) (32 : UInt8)))) [(116 : UInt8), (104 : UInt8), (114 : UInt8), (101 : UInt8), (97 : UInt8), (100 : UInt8), (115 : UInt8), (61 : UInt8)]) (yLen (trimP (hdS (tlS (spS (textC s t f l p) (32 : UInt8)))) [(116 : UInt8), (104 : UInt8), (114 : UInt8), (101 : UInt8), (97 : UInt8), (100 : UInt8), (115 : UInt8), (61 : UInt8)])))) t) (yAnd (yEq (yWrap IntKind.i64 (decI (trimP (hdS (tlS (tlS (spS (textC s t f l p) (32 : UInt8))))) [(102 : UInt8), (97 : UInt8), (110 : UInt8), (61 : UInt8)]) (yLen (trimP (hdS (tlS (tlS (spS (textC s t f l p) (32 : UInt8))))) [(102 : UInt8), (97 : UInt8), (110 : UInt8), (61 : UInt8)])))) f) (yAnd (yEq (yWrap IntKind.i64 (decI (trimP (hdS (tlS (tlS (tlS (spS (textC s t f l p) (32 : UInt8)))))) [(108 : UInt8), (105 : UInt8), (109 : UInt8), (98 : UInt8), (111 : UInt8), (61 : UInt8)]) (yLen (trimP (hdS (tlS (tlS (tlS (spS (textC s t f l p) (32 : UInt8)))))) [(108 : UInt8), (105 : UInt8), (109 : UInt8), (98 : UInt8), (111 : UInt8), (61 : UInt8)])))) l) (yAnd (yEq (yWrap IntKind.i64 (decI (trimP (hdS (tlS (tlS (tlS (tlS (spS (textC s t f l p) (32 : UInt8))))))) [(112 : UInt8), (97 : UInt8), (116 : UInt8), (105 : UInt8), (101 : UInt8), (110 : UInt8), (99 : UInt8), (101 : UInt8), (61 : UInt8)]) (yLen (trimP (hdS (tlS (tlS (tlS (tlS (spS (textC s t f l p) (32 : UInt8))))))) [(112 : UInt8), (97 : UInt8), (116 : UInt8), (105 : UInt8), (101 : UInt8), (110 : UInt8), (99 : UInt8), (101 : UInt8), (61 : UInt8)])))) p) true)))) = true → true = true) ∧ (yAnd (yEq (yWrap IntKind.i64 (decI (trimP (hdS (spS (textC s t f l p) (32 : UInt8))) [(115 : UInt8), (108 : UInt8), (111 : UInt8), (116 : UInt8), (115 : UInt8), (61 : UInt8)]) (yLen (trimP (hdS (spS (textC s t f l p) (32 : UInt8))) [(115 : UInt8), (108 : UInt8), (111 : UInt8), (116 : UInt8), (115 : UInt8), (61 : UInt8)])))) s) (yAnd (yEq (yWrap IntKind.i64 (decI (trimP (hdS (tlS (spS (textC s t f l p) (32 : UInt8)))) [(116 : UInt8), (104 : UInt8), (114 : UInt8), (101 : UInt8), (97 : UInt8), (100 : UInt8), (115 : UInt8), (61 : UInt8)]) (yLen (trimP (hdS (tlS (spS (textC s t f l p) (32 : UInt8)))) [(116 : UInt8), (104 : UInt8), (114 : UInt8), (101 : UInt8), (97 : UInt8), (100 : UInt8), (115 : UInt8), (61 : UInt8)])))) t) (yAnd (yEq (yWrap IntKind.i64 (decI (trimP (hdS (tlS (tlS (spS (textC s t f l p) (32 : UInt8))))) [(102 : UInt8), (97 : UInt8), (110 : UInt8), (61 : UInt8)]) (yLen (trimP (hdS (tlS (tlS (spS (textC s t f l p) (32 : UInt8))))) [(102 : UInt8), (97 : UInt8), (110 : UInt8), (61 : UInt8)])))) f) (yAnd (yEq (yWrap IntKind.i64 (decI (trimP (hdS (tlS (tlS (tlS (spS (textC s t f l p) (32 : UInt8)))))) [(108 : UInt8), (105 : UInt8), (109 : UInt8), (98 : UInt8), (111 : UInt8), (61 : UInt8)]) (yLen (trimP (hdS (tlS (tlS (tlS (spS (textC s t f l p) (32 : UInt8)))))) [(108 : UInt8), (105 : UInt8), (109 : UInt8), (98 : UInt8), (111 : UInt8), (61 : UInt8)])))) l) (yAnd (yEq (yWrap IntKind.i64 (decI (trimP (hdS (tlS (tlS (tlS (tlS (spS (textC s t f l p) (32 : UInt8))))))) [(112 : UInt8), (97 : UInt8), (116 : UInt8), (105 : UInt8), (101 : UInt8), (110 : UInt8), (99 : UInt8), (101 : UInt8), (61 : UInt8)]) (yLen (trimP (hdS (tlS (tlS (tlS (tlS (spS (textC s t f l p) (32 : UInt8))))))) [(112 : UInt8), (97 : UInt8), (116 : UInt8), (105 : UInt8), (101 : UInt8), (110 : UInt8), (99 : UInt8), (101 : UInt8), (61 : UInt8)])))) p) true)))) = false → true = false))) ∧ (true = false → False))) ∧ (true = false → False))) ∧ (okD (trimP (hdS (tlS (tlS (tlS (tlS (spS (textC s t f l p) (32 : UInt8))))))) [(112 : UInt8), (97 : UInt8), (116 : UInt8), (105 : UInt8), (101 : UInt8), (110 : UInt8), (99 : UInt8), (101 : UInt8), (61 : UInt8)]) = false → False)) ∧ (hasP (hdS (tlS (tlS (tlS (tlS (spS (textC s t f l p) (32 : UInt8))))))) [(112 : UInt8), (97 : UInt8), (116 : UInt8), (105 : UInt8), (101 : UInt8), (110 : UInt8), (99 : UInt8), (101 : UInt8), (61 : UInt8)] = false → False))) ∧ (okD (trimP (hdS (tlS (tlS (tlS (spS (textC s t f l p) (32 : UInt8)))))) [(108 : UInt8), (105 : UInt8), (109 : UInt8), (98 : UInt8), (111 : UInt8), (61 : UInt8)]) = false → False)) ∧ (hasP (hdS (tlS (tlS (tlS (spS (textC s t f l p) (32 : UInt8)))))) [(108 : UInt8), (105 : UInt8), (109 : UInt8), (98 : UInt8), (111 : UInt8), (61 : UInt8)] = false → False))) ∧ (okD (trimP (hdS (tlS (tlS (spS (textC s t f l p) (32 : UInt8))))) [(102 : UInt8), (97 : UInt8), (110 : UInt8), (61 : UInt8)]) = false → False)) ∧ (hasP (hdS (tlS (tlS (spS (textC s t f l p) (32 : UInt8))))) [(102 : UInt8), (97 : UInt8), (110 : UInt8), (61 : UInt8)] = false → False))) ∧ (okD (trimP (hdS (tlS (spS (textC s t f l p) (32 : UInt8)))) [(116 : UInt8), (104 : UInt8), (114 : UInt8), (101 : UInt8), (97 : UInt8), (100 : UInt8), (115 : UInt8), (61 : UInt8)]) = false → False)) ∧ (hasP (hdS (tlS (spS (textC s t f l p) (32 : UInt8)))) [(116 : UInt8), (104 : UInt8), (114 : UInt8), (101 : UInt8), (97 : UInt8), (100 : UInt8), (115 : UInt8), (61 : UInt8)] = false → False))) ∧ (okD (trimP (hdS (spS (textC s t f l p) (32 : UInt8))) [(115 : UInt8), (108 : UInt8), (111 : UInt8), (116 : UInt8), (115 : UInt8), (61 : UInt8)]) = false → False)) ∧ (hasP (hdS (spS (textC s t f l p) (32 : UInt8))) [(115 : UInt8), (108 : UInt8), (111 : UInt8), (116 : UInt8), (115 : UInt8), (61 : UInt8)] = false → False)) ∧ (okSp 5 (textC s t f l p) (32 : UInt8) = false → False)) ∧ (rightC s t f l p = false → False)) := by kernel_rfl
set_option maxRecDepth 100000 in
theorem goalBkF_eq : goalBkF = (∀ (s t f l p : Int), rightC s t f l p = false → (yNot (rightC s t f l p) = true → (okSp 1 [] (32 : UInt8) = true → (true = true → (yLe (0 : Int) (wrongC s t f l p) = true → true = true) ∧ (yLe (0 : Int) (wrongC s t f l p) = false → (yAnd (yEq (0 : Int) s) (yAnd (yEq (0 : Int) t) (yAnd (yEq (0 : Int) f) (yAnd (yEq (0 : Int) l) (yAnd (yEq (0 : Int) p) true)))) = true → true = false) ∧ (yAnd (yEq (0 : Int) s) (yAnd (yEq (0 : Int) t) (yAnd (yEq (0 : Int) f) (yAnd (yEq (0 : Int) l) (yAnd (yEq (0 : Int) p) true)))) = false → true = false))) ∧ (true = false → False)) ∧ (okSp 1 [] (32 : UInt8) = false → False)) ∧ (yNot (rightC s t f l p) = false → False)) := by kernel_rfl
theorem hdS_c (a : List UInt8) (l : List (List UInt8)) : hdS (a :: l) = a := rfl
theorem tlS_c (a : List UInt8) (l : List (List UInt8)) : tlS (a :: l) = l := rfl
theorem yEq_me (n : Int) : yEq n n = true := by unfold yEq; exact decide_eq_true rfl
theorem num_facts {n : Int} (h0 : 1 ≤ n) (h1 : n ≤ 1048576) : okD (fm n) = true ∧ decI (fm n) (yLen (fm n)) = n ∧ yLt 1048576 n = false ∧ yWrap .i64 n = n := by
  refine ⟨okD_fm h0 h1, decI_fm (by omega) (by show n < 100000000000000000000; omega), ?_, wrap64 (by omega) (by omega)⟩
  simp only [yLt_f]; omega
theorem wrong_ok {s t f l p : Int} (h : rightC s t f l p = true) : wrongC s t f l p = -1 := by
  rw [rightC_iff] at h
  unfold wrongC
  rw [if_neg (by omega), if_neg (by omega), if_neg (by omega), if_neg (by omega), if_neg (by omega)]
theorem wrong_off {s t f l p : Int} (h : rightC s t f l p = false) : yLe 0 (wrongC s t f l p) = true := by
  rw [rightC_off] at h
  unfold wrongC
  simp only [yLe_t]
  by_cases h0 : s < 1 ∨ 1000 < s
  · rw [if_pos h0]; decide
  rw [if_neg h0]
  by_cases h1 : t < 1 ∨ 64 < t
  · rw [if_pos h1]; decide
  rw [if_neg h1]
  by_cases h2 : f < 4 ∨ 64 < f
  · rw [if_pos h2]; decide
  rw [if_neg h2]
  by_cases h3 : l < 1 ∨ 64 < l
  · rw [if_pos h3]; decide
  rw [if_neg h3, if_pos (by omega)]; decide
set_option maxRecDepth 100000 in
theorem goalBkT_ok : goalBkT := by
  refine @kernel_go _ _ goalBkT_eq ?_
  intro s t f l p h
  obtain ⟨e1, e2⟩ := sp_text h
  have hw := wrong_ok h
  have hb := rightC_iff.1 h
  obtain ⟨a1, a2, b1, b2, c1, c2, d1, d2, p1, p2⟩ := hb
  obtain ⟨s1, s2, s3, s4⟩ := num_facts a1 (by omega)
  obtain ⟨t1, t2, t3, t4⟩ := num_facts b1 (by omega)
  obtain ⟨f1, f2, f3, f4⟩ := num_facts (n := f) (by omega) (by omega)
  obtain ⟨l1, l2, l3, l4⟩ := num_facts d1 (by omega)
  obtain ⟨q1, q2, q3, q4⟩ := num_facts p1 (by omega)
  have hle : yLe 0 (-1) = false := by decide
  have hyn : yNot true = false := rfl
  have hya : yAnd true true = true := rfl
  simp only [e1, e2, hdS_c, tlS_c, has_app, trim_app, s1, s2, s3, s4, t1, t2, t3, t4, f1, f2, f3, f4, l1, l2, l3, l4, q1, q2, q3, q4, h, hw, hle, hyn, hya, yEq_me, reduceCtorEq, false_implies, true_implies, and_true, true_and, implies_true]
set_option maxRecDepth 100000 in
theorem goalBkF_ok : goalBkF := by
  refine @kernel_go _ _ goalBkF_eq ?_
  intro s t f l p h
  have hw := wrong_off h
  have e2 : okSp 1 [] 32 = true := by decide
  have hyn : yNot false = true := rfl
  simp only [h, hw, e2, hyn, reduceCtorEq, false_implies, true_implies, and_true, true_and, implies_true]
end Go.Proofs.YtdaflnnjfmickaaDoor.Ex
