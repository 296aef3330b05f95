/- Closed runs as contracts: a table of arguments and of what comes of them. -/
import Derived.Test.YtiikiphkhfmlcaaGreatDoorSb
import Derived.Test.YtiikiphkhfmlcaaGreatDoorSl
noncomputable section
namespace Go.Proofs.YtiikiphkhfmlcaaGreatDoor.Ex
open Go Go.RowKit

/-- Are these the same literal? -/
def litE : Nat → AV → AV → Bool
  | 0, _, _ => false
  | d + 1, x, y => match x, y with
    | .b a, .b c => a == c
    | .i k a, .i k' c => eqK k k' && eqI a c
    | .s a, .s c => eqS a c
    | .ns, .ns => true
    | .np, .np => true
    | .ni, .ni => true
    | .agg l, .agg l' => litEL d l l'
    | _, _ => false
where litEL (d : Nat) : List AV → List AV → Bool
  | [], [] => true
  | a :: l, b :: l' => litE d a b && litEL d l l'
  | _, _ => false
theorem litE_ok : ∀ (d : Nat) (x y : AV), litE d x y = true → x = y ∧ ∀ (M M' : Mp) u, x.R M u → x.R M' u := by
  intro d
  induction d with
  | zero => intro x y h; simp [litE] at h
  | succ d ih =>
    have ihl : ∀ (l l' : List AV), litE.litEL d l l' = true → l = l' ∧ ∀ (M M' : Mp) us, AV.RL M l us → AV.RL M' l us := by
      intro l
      induction l with
      | nil => intro l' h; cases l' with
        | nil => exact ⟨rfl, fun _ _ _ r => r⟩
        | cons _ _ => cases h
      | cons a l ihl => intro l' h; cases l' with
        | nil => cases h
        | cons b l' =>
          simp only [litE.litEL, Bool.and_eq_true] at h
          obtain ⟨rfl, h1⟩ := ih a b h.1
          obtain ⟨rfl, h2⟩ := ihl l' h.2
          refine ⟨rfl, fun M M' us r => ?_⟩
          simp only [AV.RL] at r ⊢
          obtain ⟨v, vs, r1, r2, rfl⟩ := r
          exact ⟨v, vs, h1 M M' v r1, h2 M M' vs r2, rfl⟩
    intro x y h
    unfold litE at h
    split at h
    · rename_i a c; obtain rfl : a = c := by simpa using h
      exact ⟨rfl, fun _ _ _ r => r⟩
    · rename_i k a k' c
      simp only [Bool.and_eq_true] at h
      obtain rfl := eqK_eq h.1
      obtain rfl : a = c := by have := h.2; rw [eqI_eq] at this; simpa using this
      exact ⟨rfl, fun _ _ _ r => r⟩
    · rename_i a c; obtain rfl : a = c := by rw [eqS_eq] at h; simpa using h
      exact ⟨rfl, fun _ _ _ r => r⟩
    · exact ⟨rfl, fun _ _ _ r => r⟩
    · exact ⟨rfl, fun _ _ _ r => r⟩
    · exact ⟨rfl, fun _ _ _ r => r⟩
    · rename_i l l'
      obtain ⟨rfl, h2⟩ := ihl l l' h
      refine ⟨rfl, fun M M' u r => ?_⟩
      simp only [AV.R] at r ⊢
      obtain ⟨vs, r1, rfl⟩ := r
      exact ⟨vs, h2 M M' vs r1, rfl⟩
    · cases h
def litL : List AV → List AV → Bool
  | [], [] => true
  | a :: l, b :: k => litE 64 a b && litL l k
  | _, _ => false
theorem litL_ok : ∀ {l k : List AV}, litL l k = true → l = k ∧ ∀ (M M' : Mp) us, AV.RL M l us → AV.RL M' l us
  | [], [], _ => ⟨rfl, fun _ _ _ r => r⟩
  | a :: l, b :: k, h => by
    simp only [litL, Bool.and_eq_true] at h
    obtain ⟨rfl, h1⟩ := litE_ok 64 a b h.1
    obtain ⟨rfl, h2⟩ := litL_ok h.2
    refine ⟨rfl, fun M M' us r => ?_⟩
    simp only [AV.RL] at r ⊢
    obtain ⟨v, vs, r1, r2, rfl⟩ := r
    exact ⟨v, vs, h1 M M' v r1, h2 M M' vs r2, rfl⟩
  | [], _ :: _, h => by cases h
  | _ :: _, [], h => by cases h
/-- What comes: a literal; a pointer to a block of which nothing is told, and a literal. -/
inductive RX where
  | lit (v : AV)
  | ptr (off : Nat) (x : AV)
  | one (off : Nat)
def okX (r : RX) (o : Option (AV × AH)) : Bool :=
  match o with
  | some (v, _) => match r with
    | .lit x => litE 64 v x
    | .ptr off x => match v with
      | .tup [.ptr _ off', y] => Nat.beq off' off && litE 64 y x
      | _ => false
    | .one off => match v with
      | .ptr _ off' => Nat.beq off' off
      | _ => false
  | none => false
def newP (h : AH) : AH := ⟨h.t, Nat.succ h.nx, h.bs, h.wl⟩
def tabG : List (List AV × RX) → List AV → AH → Option (AV × AH)
  | [], _, _ => none
  | (a, r) :: t, args, h => bif litL args a then (match r with
    | .lit v => some (v, h)
    | .ptr off x => some (.tup [.ptr h.nx off, x], newP h)
    | .one off => some (.ptr h.nx off, newP h)) else tabG t args h
def TabOk (P : Program) (sm : FuncId → Option Sm) (n : Nat) (f : FuncId) : List (List AV × RX) → Prop
  | [] => True
  | (a, r) :: t => okX r (callS P sm n f a) = true ∧ TabOk P sm n f t
theorem relP {M : Mp} {h : AH} {w : World} {p : Nat × Nat} (r : Rel M h w) (hn : M h.nx = none) : Rel (updM M h.nx p) (newP h) w ∧ ∀ id, h.get id ≠ none → updM M h.nx p id = M id := by
  have hg : ∀ id, (newP h).get id = h.get id := fun _ => rfl
  have key : ∀ id, h.get id ≠ none → updM M h.nx p id = M id := fun id e => by
    have := r.wf id e
    have : id ≠ h.nx := by omega
    simp [updM, this]
  refine ⟨⟨fun id o e => ?_, fun i j b κ κ' o e1 e2 e3 e4 e5 => ?_, fun x e => Nat.lt_succ_of_lt (r.wf x e), r.gw, fun x b κ o e e2 e3 => ?_, r.fz, fun i b κ o e e2 e3 => ?_⟩, key⟩
  · rw [hg] at e
    rcases r.obj id o e with ⟨q1, q2⟩ | ⟨b, κ, ob, q1, q2, q3⟩
    · exact .inl ⟨q1, by rw [key id (by rw [e]; simp)]; exact q2⟩
    · refine .inr ⟨b, κ, ob, by rw [key id (by rw [e]; simp)]; exact q1, q2, ?_⟩
      exact ObR.mono (Le_updM hn) _ _ q3
  · rw [key i (by rw [hg] at e1; rw [e1]; simp)] at e4
    rw [key j e3] at e5
    exact r.inj i j b κ κ' o e1 e2 e3 e4 e5
  · rw [key x (by rw [hg] at e; rw [e]; simp)] at e3
    exact r.gf x b κ o e e2 e3
  · rw [key i (by rw [hg] at e; rw [e]; simp)] at e3
    exact r.fo i b κ o e e2 e3
theorem sm_tab {P : Program} (hm : P.follows .mixedOrders = true) {sm : FuncId → Option Sm} (hs : SmOK P sm) {n f : Nat} : ∀ {tab : List (List AV × RX)}, TabOk P sm n f tab → SmCall P f (tabG tab)
  | [], _ => fun args h v h' hg => by cases hg
  | (a, r) :: t, hok => fun args h v h' hg => by
    simp only [tabG, Bool.cond_eq_ite] at hg
    split at hg
    case isFalse => exact sm_tab hm hs hok.2 args h v h' hg
    rename_i hl
    obtain ⟨rfl, hlr⟩ := litL_ok hl
    have h1 := hok.1
    unfold callS at h1
    cases hc : callA P ⟨exec P sm n, sm⟩ f args ⟨.lf, 0, 0, []⟩ with
    | none => rw [hc] at h1; cases h1
    | some p =>
      obtain ⟨v0, h0⟩ := p
      rw [hc] at h1
      obtain ⟨_, cc⟩ := callA_ok (exec_good hm hs n) hc
      have hr : ∀ w : World, GW w → Rel noM ⟨.lf, 0, 0, []⟩ w := fun w hw => ⟨fun x o e => by simp [get_lf] at e, fun x y b κ κ' o hx => by simp [get_lf] at hx, fun x hx => absurd (get_lf _ _ _ x) hx, hw, fun x b κ o hx => (by simp [get_lf] at hx), fun b cs e => (by cases e), fun x b κ o hx => (by simp [get_lf] at hx)⟩
      cases r with
      | lit x =>
        simp only [Option.some.injEq, Prod.mk.injEq] at hg
        obtain ⟨rfl, rfl⟩ := hg
        obtain ⟨rfl, hv⟩ := litE_ok 64 v0 x h1
        refine ⟨⟨Nat.le_refl _, Ab.refl _⟩, fun M us w r R ra rr fr k => ?_⟩
        refine cc noM us w r R (hlr M noM us ra) (hr w rr.gw) (fun _ _ _ => rfl) (fun M' u0 w' rv rel' f' _ => ?_)
        have hbl : Below w.heap.size w w' := ⟨f'.os, f'.tape, f'.output, f'.size, fun k hk => f'.keep k hk (fun id κ o hg => by simp [get_lf] at hg)⟩
        exact k M u0 w' (hv M' M u0 rv) (rr.below hbl) ⟨hbl.os, hbl.tape, hbl.output, hbl.size, Le.refl M, fun _ e => absurd rfl e, fun q hq _ => hbl.block q hq, fun id b2 κ o q1 q2 => .inr ⟨id, κ, o, q1, q2, fun e => e⟩, fun b cs e => .inl e⟩ (Ab.refl _)
      | ptr off x =>
        simp only [Option.some.injEq, Prod.mk.injEq] at hg
        obtain ⟨rfl, rfl⟩ := hg
        unfold okX at h1
        simp only at h1
        split at h1
        case h_2 => cases h1
        rename_i id off' y
        simp only [Bool.and_eq_true] at h1
        obtain rfl : off' = off := Nat.eq_of_beq_eq_true h1.1
        obtain ⟨rfl, hv⟩ := litE_ok 64 y x h1.2
        refine ⟨⟨Nat.le_succ _, ⟨Nat.le_succ _, rfl, fun _ hx => hx, fun _ _ _ _ => rfl, fun _ hx => .inl hx⟩⟩, fun M us w r R ra rr fr k => ?_⟩
        refine cc noM us w r R (hlr M noM us ra) (hr w rr.gw) (fun _ _ _ => rfl) (fun M' u0 w' rv rel' f' _ => ?_)
        have hbl : Below w.heap.size w w' := ⟨f'.os, f'.tape, f'.output, f'.size, fun k hk => f'.keep k hk (fun id κ o hg => by simp [get_lf] at hg)⟩
        simp only [AV.R, AV.RL] at rv
        obtain ⟨vs, ⟨v1, vs1, ⟨b, κ, hMb, rfl⟩, ⟨v2, vs2, rv2, rfl, rfl⟩, rfl⟩, rfl⟩ := rv
        have hn : M h.nx = none := fr h.nx (Nat.le_refl _) (Nat.lt_succ_self _)
        obtain ⟨rel2, hkey⟩ := relP (p := (b, κ)) (rr.below hbl) hn
        refine k (updM M h.nx (b, κ)) _ w' ?_ rel2 ⟨hbl.os, hbl.tape, hbl.output, hbl.size, Le_updM hn, fun id e => ?_, fun q hq _ => hbl.block q hq, fun id b2 κ2 o q1 q2 => .inr ⟨id, κ2, o, q1, by rw [← hkey id (by intro e; rw [show (newP h).get id = h.get id from rfl, e] at q1; cases q1)]; exact q2, fun e => e⟩, fun b cs e => .inl e⟩ ⟨Nat.le_succ _, rfl, fun _ hx => hx, fun _ _ _ _ => rfl, fun _ hx => .inl hx⟩
        · simp only [AV.R, AV.RL]
          exact ⟨_, ⟨_, _, ⟨b, κ, by simp [updM], rfl⟩, ⟨v2, [], hv M' _ v2 rv2, rfl, rfl⟩, rfl⟩, rfl⟩
        · have : id = h.nx := Classical.byContradiction fun hne => e (by simp [updM, hne])
          exact ⟨by omega, by show id < Nat.succ h.nx; omega⟩
      | one off =>
        simp only [Option.some.injEq, Prod.mk.injEq] at hg
        obtain ⟨rfl, rfl⟩ := hg
        unfold okX at h1
        simp only at h1
        split at h1
        case h_2 => cases h1
        rename_i id off'
        obtain rfl : off' = off := Nat.eq_of_beq_eq_true h1
        refine ⟨⟨Nat.le_succ _, ⟨Nat.le_succ _, rfl, fun _ hx => hx, fun _ _ _ _ => rfl, fun _ hx => .inl hx⟩⟩, fun M us w r R ra rr fr k => ?_⟩
        refine cc noM us w r R (hlr M noM us ra) (hr w rr.gw) (fun _ _ _ => rfl) (fun M' u0 w' rv rel' f' _ => ?_)
        have hbl : Below w.heap.size w w' := ⟨f'.os, f'.tape, f'.output, f'.size, fun k hk => f'.keep k hk (fun id κ o hg => by simp [get_lf] at hg)⟩
        simp only [AV.R] at rv
        obtain ⟨b, κ, hMb, rfl⟩ := rv
        have hn : M h.nx = none := fr h.nx (Nat.le_refl _) (Nat.lt_succ_self _)
        obtain ⟨rel2, hkey⟩ := relP (p := (b, κ)) (rr.below hbl) hn
        refine k (updM M h.nx (b, κ)) _ w' ?_ rel2 ⟨hbl.os, hbl.tape, hbl.output, hbl.size, Le_updM hn, fun id e => ?_, fun q hq _ => hbl.block q hq, fun id b2 κ2 o q1 q2 => .inr ⟨id, κ2, o, q1, by rw [← hkey id (by intro e; rw [show (newP h).get id = h.get id from rfl, e] at q1; cases q1)]; exact q2, fun e => e⟩, fun b cs e => .inl e⟩ ⟨Nat.le_succ _, rfl, fun _ hx => hx, fun _ _ _ _ => rfl, fun _ hx => .inl hx⟩
        · simp only [AV.R]
          exact ⟨b, κ, by simp [updM], rfl⟩
        · have : id = h.nx := Classical.byContradiction fun hne => e (by simp [updM, hne])
          exact ⟨by omega, by show id < Nat.succ h.nx; omega⟩
end Go.Proofs.YtiikiphkhfmlcaaGreatDoor.Ex
