/- The law CensusRight, walked by symbols: census.Told.Right and gleaningref33.Right tell the same of the same lists. -/
import Derived.Test.YtppcjdhohohcfaaGreatDoorCenS
import Derived.Test.YtppcjdhohohcfaaGreatDoorCRt
namespace Go.Proofs.YtppcjdhohohcfaaGreatDoor.Ex
open Go

def lCr : List (Nat × Sm) := [(10, .call (smB true)), (7, .ct (ctS [.agg [cI, cI, cI, cI, cI, none], .cell none] fCen)), (11, .ct (ctS gRgt fRgt))]
def goalCr : Prop := ∀ (x0 : Bool) (n0 : Nat) (f0 : Nat → Int) (x1 : Bool) (n1 : Nat) (f1 : Nat → Int) (x2 : Bool) (n2 : Nat) (f2 : Nat → Int) (x3 : Bool) (n3 : Nat) (f3 : Nat → Int) (x4 : Bool) (n4 : Nat) (f4 : Nat → Int) (sd : Bool) (slots : Int),
  wfI n0 f0 = true → wfI n1 f1 = true → wfI n2 f2 = true → wfI n3 f3 = true → wfI n4 f4 = true →
  wxF Tryz.prog (smL lCr) (fun _ => none) 1000 4 (canA gRgt (dRgt x0 n0 f0 x1 n1 f1 x2 n2 f2 x3 n3 f3 x4 n4 f4 sd slots) []).1
    (heapOf (canA gRgt (dRgt x0 n0 f0 x1 n1 f1 x2 n2 f2 x3 n3 f3 x4 n4 f4 sd slots) []).2) (fun v _ => cmpC (.yb true) v)
theorem goalCr_eq : goalCr = (∀ (x0 : Bool) (n0 : Nat) (f0 : Nat → Int) (x1 : Bool) (n1 : Nat) (f1 : Nat → Int) (x2 : Bool) (n2 : Nat) (f2 : Nat → Int) (x3 : Bool) (n3 : Nat) (f3 : Nat → Int) (x4 : Bool) (n4 : Nat) (f4 : Nat → Int) (sd : Bool) (slots : Int), wfI n0 f0 = true → wfI n1 f1 = true → wfI n2 f2 = true → wfI n3 f3 = true → wfI n4 f4 = true → (yLt (100 : Int) (yInt n0) = true → true = true) ∧ (yLt (100 : Int) (yInt n0) = false → (yLt (100 : Int) (yInt n1) = true → true = true) ∧ (yLt (100 : Int) (yInt n1) = false → (yLt (100 : Int) (yInt n2) = true → true = true) ∧ (yLt (100 : Int) (yInt n2) = false → (yLt (100 : Int) (yInt n3) = true → true = true) ∧ (yLt (100 : Int) (yInt n3) = false → (yLt (100 : Int) (yInt n4) = true → true = true) ∧ (yLt (100 : Int) (yInt n4) = false → (yNle (yNadd (nat_lit 0) n0) n0 = true → ((yCol (CK.int IntKind.i64) n0 fun (i : Nat) => AV.y IntKind.i64 (f0 i)) = true → (yNle (yNadd (nat_lit 0) n1) n1 = true → ((yCol (CK.int IntKind.i64) n1 fun (i : Nat) => AV.y IntKind.i64 (f1 i)) = true → (yNle (yNadd (nat_lit 0) n2) n2 = true → ((yCol (CK.int IntKind.i64) n2 fun (i : Nat) => AV.y IntKind.i64 (f2 i)) = true → (yNle (yNadd (nat_lit 0) n3) n3 = true → ((yCol (CK.int IntKind.i64) n3 fun (i : Nat) => AV.y IntKind.i64 (f3 i)) = true → (yNle (yNadd (nat_lit 0) n4) n4 = true → ((yCol (CK.int IntKind.i64) n4 fun (i : Nat) => AV.y IntKind.i64 (f4 i)) = true → (yAnd (yAnd (yNle n0 (nat_lit 100000000)) (wfI n0 fun (i : Nat) => f0 i)) (yAnd (yAnd (yNle n1 (nat_lit 100000000)) (wfI n1 fun (i : Nat) => f1 i)) (yAnd (yAnd (yNle n2 (nat_lit 100000000)) (wfI n2 fun (i : Nat) => f2 i)) (yAnd (yAnd (yNle n3 (nat_lit 100000000)) (wfI n3 fun (i : Nat) => f3 i)) (yAnd (yNle n4 (nat_lit 100000000)) (wfI n4 fun (i : Nat) => f4 i))))) = true → (yNle (yNadd (nat_lit 0) n0) n0 = true → ((yCol (CK.int IntKind.i64) n0 fun (i : Nat) => AV.y IntKind.i64 (f0 i)) = true → (yNle (yNadd (nat_lit 0) n1) n1 = true → ((yCol (CK.int IntKind.i64) n1 fun (i : Nat) => AV.y IntKind.i64 (f1 i)) = true → (yNle (yNadd (nat_lit 0) n2) n2 = true → ((yCol (CK.int IntKind.i64) n2 fun (i : Nat) => AV.y IntKind.i64 (f2 i)) = true → (yNle (yNadd (nat_lit 0) n3) n3 = true → ((yCol (CK.int IntKind.i64) n3 fun (i : Nat) => AV.y IntKind.i64 (f3 i)) = true → (yNle (yNadd (nat_lit 0) n4) n4 = true → ((yCol (CK.int IntKind.i64) n4 fun (i : Nat) => AV.y IntKind.i64 (f4 i)) = true → (yAnd (yNle n0 (nat_lit 100000000)) (yAnd (yNle n1 (nat_lit 100000000)) (yAnd (yNle n2 (nat_lit 100000000)) (yAnd (yNle n3 (nat_lit 100000000)) (yNle n4 (nat_lit 100000000))))) = true → (yIff (cenC n0 (fun (i : Nat) => f0 i) n1 (fun (i : Nat) => f1 i) n2 (fun (i : Nat) => f2 i) n3 (fun (i : Nat) => f3 i) n4 (fun (i : Nat) => f4 i) sd slots) (rgtI (sum5 n0 n1 n2 n3 n4) (cat5 n0 (fun (i : Nat) => f0 i) n1 (fun (i : Nat) => f1 i) n2 (fun (i : Nat) => f2 i) n3 (fun (i : Nat) => f3 i) fun (i : Nat) => f4 i) sd slots) = true → true = true) ∧ (yIff (cenC n0 (fun (i : Nat) => f0 i) n1 (fun (i : Nat) => f1 i) n2 (fun (i : Nat) => f2 i) n3 (fun (i : Nat) => f3 i) n4 (fun (i : Nat) => f4 i) sd slots) (rgtI (sum5 n0 n1 n2 n3 n4) (cat5 n0 (fun (i : Nat) => f0 i) n1 (fun (i : Nat) => f1 i) n2 (fun (i : Nat) => f2 i) n3 (fun (i : Nat) => f3 i) fun (i : Nat) => f4 i) sd slots) = false → true = false)) ∧ (yAnd (yNle n0 (nat_lit 100000000)) (yAnd (yNle n1 (nat_lit 100000000)) (yAnd (yNle n2 (nat_lit 100000000)) (yAnd (yNle n3 (nat_lit 100000000)) (yNle n4 (nat_lit 100000000))))) = false → False)) ∧ ((yCol (CK.int IntKind.i64) n4 fun (i : Nat) => AV.y IntKind.i64 (f4 i)) = false → False)) ∧ (yNle (yNadd (nat_lit 0) n4) n4 = false → False)) ∧ ((yCol (CK.int IntKind.i64) n3 fun (i : Nat) => AV.y IntKind.i64 (f3 i)) = false → False)) ∧ (yNle (yNadd (nat_lit 0) n3) n3 = false → False)) ∧ ((yCol (CK.int IntKind.i64) n2 fun (i : Nat) => AV.y IntKind.i64 (f2 i)) = false → False)) ∧ (yNle (yNadd (nat_lit 0) n2) n2 = false → False)) ∧ ((yCol (CK.int IntKind.i64) n1 fun (i : Nat) => AV.y IntKind.i64 (f1 i)) = false → False)) ∧ (yNle (yNadd (nat_lit 0) n1) n1 = false → False)) ∧ ((yCol (CK.int IntKind.i64) n0 fun (i : Nat) => AV.y IntKind.i64 (f0 i)) = false → False)) ∧ (yNle (yNadd (nat_lit 0) n0) n0 = false → False)) ∧ (yAnd (yAnd (yNle n0 (nat_lit 100000000)) (wfI n0 fun (i : Nat) => f0 i)) (yAnd (yAnd (yNle n1 (nat_lit 100000000)) (wfI n1 fun (i : Nat) => f1 i)) (yAnd (yAnd (yNle n2 (nat_lit 100000000)) (wfI n2 fun (i : Nat) => f2 i)) (yAnd (yAnd (yNle n3 (nat_lit 100000000)) (wfI n3 fun (i : Nat) => f3 i)) (yAnd (yNle n4 (nat_lit 100000000)) (wfI n4 fun (i : Nat) => f4 i))))) = false → False)) ∧ ((yCol (CK.int IntKind.i64) n4 fun (i : Nat) => AV.y IntKind.i64 (f4 i)) = false → False)) ∧ (yNle (yNadd (nat_lit 0) n4) n4 = false → False)) ∧ ((yCol (CK.int IntKind.i64) n3 fun (i : Nat) => AV.y IntKind.i64 (f3 i)) = false → False)) ∧ (yNle (yNadd (nat_lit 0) n3) n3 = false → False)) ∧ ((yCol (CK.int IntKind.i64) n2 fun (i : Nat) => AV.y IntKind.i64 (f2 i)) = false → False)) ∧ (yNle (yNadd (nat_lit 0) n2) n2 = false → False)) ∧ ((yCol (CK.int IntKind.i64) n1 fun (i : Nat) => AV.y IntKind.i64 (f1 i)) = false → False)) ∧ (yNle (yNadd (nat_lit 0) n1) n1 = false → False)) ∧ ((yCol (CK.int IntKind.i64) n0 fun (i : Nat) => AV.y IntKind.i64 (f0 i)) = false → False)) ∧ (yNle (yNadd (nat_lit 0) n0) n0 = false → False))))))) := by kernel_rfl
/-! The two tell the same. -/
theorem cat5_lis (n0 : Nat) (f0 : Nat → Int) (n1 : Nat) (f1 : Nat → Int) (n2 : Nat) (f2 : Nat → Int) (n3 : Nat) (f3 : Nat → Int) (n4 : Nat) (f4 : Nat → Int) :
    lisI n0 f0 ++ (lisI n1 f1 ++ (lisI n2 f2 ++ (lisI n3 f3 ++ lisI n4 f4))) = lisI (sum5 n0 n1 n2 n3 n4) (cat5 n0 f0 n1 f1 n2 f2 n3 f3 f4) := by
  have two : ∀ (n m : Nat) (f g : Nat → Int), lisI n f ++ lisI m g = lisI (n + m) (catI n f g) := fun n m f g => by
    unfold lisI
    rw [List.range_add, List.map_append, List.map_map]
    congr 1
    · exact List.map_congr_left fun i hi => by simp [catI, List.mem_range.1 hi]
    · exact List.map_congr_left fun i hi => by simp [catI, Nat.not_lt.2 (Nat.le_add_right n i)]
  rw [← List.append_assoc, ← List.append_assoc, ← List.append_assoc, two, two, two, two]
  rfl
theorem rgtI_cen {n : Nat} {f : Nat → Int} {sd : Bool} {slots : Int} : rgtI n f sd slots = cenR (lisI n f) sd slots := by
  unfold rgtI cenR
  congr 1
  refine propext ⟨fun ⟨h1, h2, h3⟩ => ⟨h1, by rw [lisI_len]; exact h2, fun x hx => ?_⟩, fun ⟨h1, h2, h3⟩ => ⟨h1, by rw [lisI_len] at h2; exact h2, fun j hj => ?_⟩⟩
  · obtain ⟨i, hi, rfl⟩ := List.mem_map.1 hx
    have hi := List.mem_range.1 hi
    refine ⟨(h3 i hi).1, (h3 i hi).2.1, ?_⟩
    have hnd : (lisI n f).Nodup := by
      unfold lisI
      rw [List.nodup_iff_pairwise_ne, List.pairwise_map]
      refine List.Pairwise.imp_of_mem ?_ List.pairwise_lt_range
      intro a b ha hb hab
      exact (h3 b (List.mem_range.1 hb)).2.2 a hab
    exact List.Nodup.count (a := f i) hnd |>.trans (if_pos hx)
  · have hm : f j ∈ lisI n f := List.mem_map.2 ⟨j, List.mem_range.2 hj, rfl⟩
    obtain ⟨h4, h5, h6⟩ := h3 (f j) hm
    refine ⟨h4, h5, fun q hq e => ?_⟩
    have h7 : 1 < (lisI n f).count (f j) := by
      have e1 : lisI n f = lisI j f ++ lisI (n - j) (fun i => f (j + i)) := by
        unfold lisI
        conv => lhs; rw [show n = j + (n - j) by omega, List.range_add, List.map_append, List.map_map]
        rfl
      rw [e1, List.count_append]
      have a1 : 0 < (lisI j f).count (f j) := List.count_pos_iff.2 (List.mem_map.2 ⟨q, List.mem_range.2 hq, e⟩)
      have a2 : 0 < (lisI (n - j) (fun i => f (j + i))).count (f j) := List.count_pos_iff.2 (List.mem_map.2 ⟨0, List.mem_range.2 (by omega), rfl⟩)
      omega
    omega
theorem same5 (n0 : Nat) (f0 : Nat → Int) (n1 : Nat) (f1 : Nat → Int) (n2 : Nat) (f2 : Nat → Int) (n3 : Nat) (f3 : Nat → Int) (n4 : Nat) (f4 : Nat → Int) (sd : Bool) (slots : Int) :
    cenC n0 f0 n1 f1 n2 f2 n3 f3 n4 f4 sd slots = rgtI (sum5 n0 n1 n2 n3 n4) (cat5 n0 f0 n1 f1 n2 f2 n3 f3 f4) sd slots := by
  unfold cenC
  rw [rgtI_cen, cat5_lis]
set_option maxRecDepth 100000 in
theorem goalCr_ok : goalCr := by
  refine kernel_go goalCr_eq ?_
  intro x0 n0 f0 x1 n1 f1 x2 n2 f2 x3 n3 f3 x4 n4 f4 sd slots w0 w1 w2 w3 w4
  have hs := same5 n0 f0 n1 f1 n2 f2 n3 f3 n4 f4 sd slots
  simp only [yAnd_t, yAnd_f, yIff_t, yIff_f, yLt_t, yLt_f, yNle_t, yNle_f, yInt_e, yNadd_e, yCol_int, and_true, Nat.zero_add, Nat.le_refl, forall_const, Bool.true_eq_false, false_implies, yCol_int, w0, w1, w2, w3, w4, or_false, and_true]
  repeat' (first | apply And.intro | intro _)
  all_goals first | exact True.intro | omega | contradiction | (rename_i h9; exact h9 hs)
end Go.Proofs.YtppcjdhohohcfaaGreatDoor.Ex
