/- The abstract machine: its runs as trees of decisions. -/
import Derived.Test.YtiikiphkhfmlcaaGreatDoorExQ
noncomputable section
namespace Go.Proofs.YtiikiphkhfmlcaaGreatDoor.Ex
open Go

structure RcT where
  code : Code → St → T (AX × St)
  sm : FuncId → Option Sm
def RcT.rc (r : RcT) : Rc := ⟨fun c s => (r.code c s).sel, r.sm⟩

section
variable (P : Program) (rec : RcT)

def finA (fn : Func) (x : AX) (s : St) : Option (AV × AH) :=
  match x with
  | .ex _ => none
  | _ => match takeAll s.h s.df with
    | some h' => match resA P s.tm h' fn.results.toList with
      | some v => some (v, h')
      | none => none
    | none => none
def callT (f : FuncId) (args : List AV) (h : AH) : T (AV × AH) :=
  match rec.sm f with
  | some (.call g) => .of (g args h)
  | some (.ct g) => g args h
  | some (.val _) => .no
  | none =>
  match P.funcs[f]? with
  | some fn => bif okFn fn then match fn.body with
    | some c => match initT .lf 0 args with
      | some tm => (rec.code c ⟨tm, max fn.ntmps args.length, [], none, h⟩).bind fun p => .of (finA P fn p.1 p.2)
      | none => .no
    | none => .no
    else .no
  | none => .no
def roundT (l : Nat) (args : List AV) (h : AH) : T (AV × AH) :=
  match h.get l with
  | some (.loop .ready none tm0 sz ps asg bo D) => match setPs tm0 sz ps.toList args with
    | some tm => match hideRd h l with
      | some h1 => (rec.code asg ⟨tm, sz, [], some l, h1⟩).bind fun p => match p.1 with
        | .nm => match p.2.df with
          | [] => (rec.code bo ⟨p.2.tm, p.2.sz, [], some l, p.2.h⟩).bind fun q => match q.1 with
            | .nm => match endRd q.2.h l false (.loop .ready none tm0 sz ps asg bo D) with | some h3 => .ret (.b true, h3) | none => .no
            | .rt => match endRd q.2.h l true (.loop .done (some .ret) tm0 sz ps asg bo D) with | some h3 => .ret (.b false, h3) | none => .no
            | .ex id => match endRd q.2.h l true (.loop .done (some (.exit id)) tm0 sz ps asg bo D) with | some h3 => .ret (.b false, h3) | none => .no
          | _ => .no
        | _ => .no
      | none => .no
    | none => .no
  | _ => .no
def opFT (tm : Tr AV) (o : Oper) (h : AH) : T (AV × AH) :=
  (opT P tm o h).bind fun out => match out with
  | .val v h' => bif Nat.ble h.nx h'.nx then .ret (v, h') else .no
  | .enter f args _ => match rec.sm f with
    | some (.val g) => match g args with | some v => .ret (v, h) | none => .no
    | _ => callT P rec f args h
  | .yld l args _ => roundT rec l args h
def opsT (ops : List Oper) : List Oper → St → T St
  | [], s => .ret s
  | o :: rest, ⟨tm, sz, df, rd, h⟩ =>
    match wantA ops tm o with
    | some true => (opFT P rec tm o h).bind fun p => match putA ⟨tm, sz, df, rd, p.2⟩ o.dst p.1 with
        | some s' => opsT ops rest s'
        | none => .no
    | some false => match putA ⟨tm, sz, df, rd, h⟩ o.dst undefA with
      | some s' => opsT ops rest s'
      | none => .no
    | none => .no
theorem opsT_cons (ops : List Oper) (o : Oper) (rest : List Oper) (s : St) : opsT P rec ops (o :: rest) s = (
    match wantA ops s.tm o with
    | some true => (opFT P rec s.tm o s.h).bind fun p => match putA { s with h := p.2 } o.dst p.1 with
        | some s' => opsT P rec ops rest s'
        | none => .no
    | some false => match putA s o.dst undefA with
      | some s' => opsT P rec ops rest s'
      | none => .no
    | none => .no) := by cases s; rfl
def viewT (tm : Tr AV) (o : Oper) (h : AH) (un : List DR) : T (AV × AH × List Nat × Bool × Option Nat) :=
  match kindA tm o.op with
  | .pure => (opFT P rec tm o ⟨.lf, h.nx, h.nx, []⟩).bind fun p => bif Nat.beq p.2.nx h.nx then .ret (p.1, h, [], false, none) else .no
  | .make => (opFT P rec tm o ⟨.lf, h.nx, h.nx, []⟩).bind fun p => bif Nat.beq p.2.nx h.nx then .ret (p.1, h, [], false, none) else bif Nat.beq p.2.nx (Nat.succ h.nx) then
        (match p.2.get h.nx with
        | some o => match h.new o with | some h2 => .ret (p.1, h2, [], false, none) | none => .no
        | none => .no)
      else .no
  | .read id => match h.get id with
    | some ob => bif un.any (inDR id) then .no else
      match Tr.set 64 .lf (Nat.succ id) (some ob) with
      | some t => (opFT P rec tm o ⟨t, h.nx, h.nx, []⟩).bind fun p => bif Nat.beq p.2.nx h.nx then (match p.2.wl with | [] => .ret (p.1, h, [], false, some id) | _ => .no) else .no
      | none => .no
    | none => .no
  | .full => match hideL un with
    | some l => match hideA h l with
      | some (hv, sv) => (opFT P rec tm o ⟨hv.t, hv.nx, hv.nx, []⟩).bind fun p => match showA ⟨p.2.t, p.2.nx, 0, []⟩ sv with
          | some h2 => .ret (p.1, ⟨h2.t, h2.nx, h.bs, mergeW h.bs h.wl p.2.wl⟩, p.2.wl, true, none)
          | none => .no
      | none => .no
    | none => .no
def drawT (ops : List Oper) : List Oper → Nat → List DR → St → T St
  | [], _, _, s => .ret s
  | o :: rest, i, recs, ⟨tm, sz, df, rd, h⟩ =>
    match predsA i recs o.after.toList with
    | none => .no
    | some pm =>
      let un := recs.filter fun r => !Nat.testBit pm r.i
      let lk := looksA ops o
      bif un.all (apartT o.dst lk) then
        match wantA ops tm o with
        | some true => (viewT P rec tm o h un).bind fun p => bif noneW h.nx p.2.2.1 un then
              (match putA ⟨tm, sz, df, rd, p.2.1⟩ o.dst p.1 with
              | some s' => drawT ops rest (Nat.succ i) (⟨i, pm, o.dst, lk, h.nx, p.2.1.nx, p.2.2.1, p.2.2.2.1, p.2.2.2.2⟩ :: recs) s'
              | none => .no) else .no
        | some false => match putA ⟨tm, sz, df, rd, h⟩ o.dst undefA with
          | some s' => drawT ops rest (Nat.succ i) (⟨i, pm, o.dst, lk, h.nx, h.nx, [], false, none⟩ :: recs) s'
          | none => .no
        | none => .no
      else .no
theorem drawT_cons (ops : List Oper) (o : Oper) (rest : List Oper) (i : Nat) (recs : List DR) (s : St) : drawT P rec ops (o :: rest) i recs s = (
    match predsA i recs o.after.toList with
    | none => .no
    | some pm =>
      let un := recs.filter fun r => !Nat.testBit pm r.i
      let lk := looksA ops o
      bif un.all (apartT o.dst lk) then
        match wantA ops s.tm o with
        | some true => (viewT P rec s.tm o s.h un).bind fun p => bif noneW s.h.nx p.2.2.1 un then
              (match putA { s with h := p.2.1 } o.dst p.1 with
              | some s' => drawT P rec ops rest (Nat.succ i) (⟨i, pm, o.dst, lk, s.h.nx, p.2.1.nx, p.2.2.1, p.2.2.2.1, p.2.2.2.2⟩ :: recs) s'
              | none => .no) else .no
        | some false => match putA s o.dst undefA with
          | some s' => drawT P rec ops rest (Nat.succ i) (⟨i, pm, o.dst, lk, s.h.nx, s.h.nx, [], false, none⟩ :: recs) s'
          | none => .no
        | none => .no
      else .no) := by cases s; rfl
def rangeT (f : Operand) (ps : Array Tmp) (asg bo : Code) (s : St) : T (AX × St) :=
  match evT s.tm f with
  | .fn gf caps =>
    match (match s.rd with
      | none => match s.h.new (.dfr true) with | some h => some (s.h.nx, s.h.nx :: s.df, h) | none => none
      | some l => match s.h.get l with | some (.loop _ _ _ _ _ _ _ D) => some (D, s.df, s.h) | _ => none) with
    | some (D, df, h) => match h.new (.loop .ready none s.tm s.sz ps asg bo D) with
      | some h1 => (callT P rec gf (.yl h.nx :: caps) h1).bind fun p => match p.2.get h.nx with
          | some (.loop .busy _ _ _ _ _ _ _) => .no
          | some (.loop _ pe tm sz ps' asg' bo' D') => match p.2.put h.nx (some (.loop .exhausted pe tm sz ps' asg' bo' D')) with
            | some h3 => match pe with
              | none => .ret (.nm, { s with df := df, h := h3 })
              | some .ret => rec.code .ret { s with df := df, h := h3 }
              | some (.exit id) => rec.code (.exit id) { s with df := df, h := h3 }
              | some _ => .no
            | none => .no
          | _ => .no
      | none => .no
    | none => .no
  | _ => .no
def loopT : Nat → Code → St → T (AX × St)
  | 0, _, _ => .no
  | m + 1, c, s => (rec.code c s).bind fun p => match p.1 with | .nm => loopT m c p.2 | _ => .ret p
def stepT (n : Nat) (c : Code) (s : St) : T (AX × St) :=
  match c with
  | .skip | .label _ => .ret (.nm, s)
  | .seq a b => (rec.code a s).bind fun p => match p.1 with | .nm => rec.code b p.2 | _ => .ret p
  | .cond c t e => match evT s.tm c with | .b x => bif x then rec.code t s else rec.code e s | .yb x => .br x (rec.code t s) (rec.code e s) | _ => .no
  | .block id c => (rec.code c s).bind fun p => match p.1 with | .ex j => bif Nat.beq j id then .ret (.nm, p.2) else .ret p | _ => .ret p
  | .loop c => loopT rec n c s
  | .exit id => .ret (.ex id, s)
  | .ret => .ret (.rt, s)
  | .region _ ops false => (opsT P rec ops.toList ops.toList s).bind fun s' => .ret (.nm, s')
  | .region _ ops true => (drawT P rec ops.toList ops.toList 0 [] s).bind fun s' => .ret (.nm, s')
  | .rangeFunc f ps asg bo => rangeT P rec f ps asg bo s
  | .scope c => rec.code c s
  | _ => .no
end
def execT (P : Program) (sm : FuncId → Option Sm) : Nat → Code → St → T (AX × St)
  | 0, _, _ => .no
  | n + 1, c, s => stepT P ⟨execT P sm n, sm⟩ n c s

/-! The runs that a tree holds. -/
section
variable {P : Program} {rec : RcT}

theorem sel_br' {α : Type} (b : Bool) (t e : T α) : (T.br b t e).sel = bif b then t.sel else e.sel := rfl
theorem sel_ret' {α : Type} (a : α) : (T.ret a).sel = some a := rfl
theorem sel_no {α : Type} : (T.no : T α).sel = none := rfl
theorem sel_cond {α : Type} (b : Bool) (t e : T α) : (bif b then t else e).sel = bif b then t.sel else e.sel := by cases b <;> rfl

theorem opT_sel {tm : Tr AV} {o : Oper} {h : AH} : (opT P tm o h).sel = opS P tm o h := by
  rw [opS_eq]; unfold opT
  cases mvA tm o with
  | some b => cases b <;> rfl
  | none => cases opA P tm o h <;> rfl
theorem callT_sel {f : FuncId} {args : List AV} {h : AH} : (callT P rec f args h).sel = callA P rec.rc f args h := by
  unfold callT callA
  rw [show rec.rc.sm f = rec.sm f from rfl]
  cases hs : rec.sm f with
  | some g => cases g with
    | call g => simp only [T.sel_of]
    | ct g => rfl
    | val g => rfl
  | none =>
    simp only
    cases P.funcs[f]? with
    | none => rfl
    | some fn =>
      simp only [sel_cond]
      congr 1
      cases fn.body with
      | none => rfl
      | some c =>
        simp only
        cases initT .lf 0 args with
        | none => rfl
        | some tm =>
          simp only [T.sel_bind, RcT.rc]
          cases (rec.code c ⟨tm, max fn.ntmps args.length, [], none, h⟩).sel with
          | none => rfl
          | some p => obtain ⟨x, s⟩ := p; cases x <;> (simp only [T.sel_of, finA]; try rfl)
theorem roundT_sel {l : Nat} {args : List AV} {h : AH} : (roundT rec l args h).sel = roundA rec.rc l args h := by
  unfold roundT roundA
  rw [show rec.rc.code = fun c s => (rec.code c s).sel from rfl]
  cases h.get l with
  | none => rfl
  | some ob =>
    cases ob <;> first | rfl | skip
    rename_i st pe tm sz ps asg bo D
    cases st <;> first | rfl | skip
    cases pe <;> first | rfl | skip
    simp only
    cases setPs tm sz ps.toList args with
    | none => rfl
    | some tm2 =>
      simp only
      cases hideRd h l with
      | none => rfl
      | some h1 =>
        simp only [T.sel_bind]
        cases (rec.code asg ⟨tm2, sz, [], some l, h1⟩).sel with
        | none => rfl
        | some p =>
          obtain ⟨x, s⟩ := p
          cases x <;> first | rfl | skip
          simp only
          cases s.df with
          | cons d ds => rfl
          | nil =>
            simp only [T.sel_bind]
            cases (rec.code bo ⟨s.tm, s.sz, [], some l, s.h⟩).sel with
            | none => rfl
            | some q =>
              obtain ⟨y, s2⟩ := q
              cases y with
              | nm => simp only; cases endRd s2.h l false (.loop .ready none tm sz ps asg bo D) <;> rfl
              | rt => simp only; cases endRd s2.h l true (.loop .done (some .ret) tm sz ps asg bo D) <;> rfl
              | ex id => simp only; cases endRd s2.h l true (.loop .done (some (.exit id)) tm sz ps asg bo D) <;> rfl
theorem opFT_sel {tm : Tr AV} {o : Oper} {h : AH} : (opFT P rec tm o h).sel = opF P rec.rc tm o h := by
  rw [opF_eq]; unfold opFT
  rw [T.sel_bind, opT_sel]
  rw [show rec.rc.sm = rec.sm from rfl]
  cases opS P tm o h with
  | none => rfl
  | some out => cases out with
    | val v h' => simp only [sel_cond]; rfl
    | enter f args h' =>
      simp only
      have hc := callT_sel (P := P) (rec := rec) (f := f) (args := args) (h := h)
      cases hs : rec.sm f with
      | none => simpa only [hs] using hc
      | some g => cases g with
        | call g => simpa only [hs] using hc
        | ct g => simpa only [hs] using hc
        | val g => simp only; cases g args <;> rfl
    | yld l args h' => exact roundT_sel
theorem opsT_sel {ops : List Oper} : ∀ {l : List Oper} {s : St}, (opsT P rec ops l s).sel = opsA P rec.rc ops l s
  | [], s => rfl
  | o :: rest, s => by
    rw [opsT_cons, opsA_cons]
    cases wantA ops s.tm o with
    | none => rfl
    | some b => cases b with
      | true =>
        simp only [T.sel_bind, opFT_sel]
        cases opF P rec.rc s.tm o s.h with
        | none => rfl
        | some p =>
          obtain ⟨v, h⟩ := p
          simp only
          cases putA { s with h := h } o.dst v with
          | none => rfl
          | some s' => exact opsT_sel
      | false =>
        simp only
        cases putA s o.dst undefA with
        | none => rfl
        | some s' => exact opsT_sel
theorem viewT_sel {tm : Tr AV} {o : Oper} {h : AH} {un : List DR} : (viewT P rec tm o h un).sel = viewRun P rec.rc tm o h un := by
  unfold viewT viewRun
  cases kindA tm o.op with
  | pure =>
    simp only [T.sel_bind, opFT_sel]
    cases opF P rec.rc tm o ⟨.lf, h.nx, h.nx, []⟩ with
    | none => rfl
    | some p => obtain ⟨v, h'⟩ := p; simp only [sel_cond]; rfl
  | make =>
    simp only [T.sel_bind, opFT_sel]
    cases opF P rec.rc tm o ⟨.lf, h.nx, h.nx, []⟩ with
    | none => rfl
    | some p =>
      obtain ⟨v, h'⟩ := p
      simp only [sel_cond]
      congr 1
      congr 1
      cases h'.get h.nx with
      | none => rfl
      | some ob => simp only; cases h.new ob <;> rfl
  | read id =>
    simp only
    cases h.get id with
    | none => rfl
    | some ob =>
      simp only [sel_cond]
      congr 1
      cases Tr.set 64 .lf (Nat.succ id) (some ob) with
      | none => rfl
      | some t =>
        simp only [T.sel_bind, opFT_sel]
        cases opF P rec.rc tm o ⟨t, h.nx, h.nx, []⟩ with
        | none => rfl
        | some p =>
          obtain ⟨v, h'⟩ := p
          simp only [sel_cond]
          congr 1
          cases h'.wl <;> rfl
  | full =>
    simp only
    cases hideL un with
    | none => rfl
    | some l =>
      simp only
      cases hideA h l with
      | none => rfl
      | some q =>
        obtain ⟨hv, sv⟩ := q
        simp only [T.sel_bind, opFT_sel]
        cases opF P rec.rc tm o ⟨hv.t, hv.nx, hv.nx, []⟩ with
        | none => rfl
        | some p =>
          obtain ⟨v, h'⟩ := p
          simp only
          cases showA ⟨h'.t, h'.nx, 0, []⟩ sv <;> rfl
theorem drawT_sel {ops : List Oper} : ∀ {l : List Oper} {i : Nat} {recs : List DR} {s : St}, (drawT P rec ops l i recs s).sel = drawA P rec.rc ops l i recs s
  | [], i, recs, s => rfl
  | o :: rest, i, recs, s => by
    rw [drawT_cons, drawA_cons]
    cases predsA i recs o.after.toList with
    | none => rfl
    | some pm =>
      simp only [sel_cond]
      congr 1
      cases wantA ops s.tm o with
      | none => rfl
      | some b => cases b with
        | true =>
          simp only [T.sel_bind, viewT_sel]
          cases viewRun P rec.rc s.tm o s.h (recs.filter fun r => !Nat.testBit pm r.i) with
          | none => rfl
          | some p =>
            obtain ⟨v, h, wr, full, ld⟩ := p
            simp only [sel_cond]
            congr 1
            cases putA { s with h := h } o.dst v with
            | none => rfl
            | some s' => exact drawT_sel
        | false =>
          simp only
          cases putA s o.dst undefA with
          | none => rfl
          | some s' => exact drawT_sel
theorem rangeT_sel {f : Operand} {ps : Array Tmp} {asg bo : Code} {s : St} : (rangeT P rec f ps asg bo s).sel = rangeFuncA P rec.rc f ps asg bo s := by
  unfold rangeT rangeFuncA
  cases evT s.tm f <;> first | rfl | skip
  rename_i gf caps
  simp only
  cases hrd : s.rd with
  | none =>
    simp only
    cases s.h.new (.dfr true) with
    | none => rfl
    | some h =>
      simp only
      generalize s.h.nx = D
      cases h.new (.loop .ready none s.tm s.sz ps asg bo D) with
      | none => rfl
      | some h1 =>
        simp only [T.sel_bind, callT_sel]
        cases callA P rec.rc gf (.yl h.nx :: caps) h1 with
        | none => rfl
        | some p =>
          obtain ⟨v, h2⟩ := p
          simp only
          cases h2.get h.nx with
          | none => rfl
          | some ob =>
            cases ob <;> first | rfl | skip
            rename_i st2 pe2 tm3 sz3 ps3 asg3 bo3 D3
            cases st2 <;> first | rfl | skip
            all_goals
              simp only
              cases h2.put h.nx (some (.loop .exhausted pe2 tm3 sz3 ps3 asg3 bo3 D3)) with
              | none => rfl
              | some h3 => cases pe2 with
            | none => rfl
            | some c => cases c <;> rfl
  | some l =>
    simp only
    cases s.h.get l with
    | none => rfl
    | some ob0 =>
      cases ob0 <;> first | rfl | skip
      rename_i st0 pe0 tm0 sz0 ps0 asg0 bo0 D
      simp only
      cases s.h.new (.loop .ready none s.tm s.sz ps asg bo D) with
      | none => rfl
      | some h1 =>
        simp only [T.sel_bind, callT_sel]
        cases callA P rec.rc gf (.yl s.h.nx :: caps) h1 with
        | none => rfl
        | some p =>
          obtain ⟨v, h2⟩ := p
          simp only
          cases h2.get s.h.nx with
          | none => rfl
          | some ob =>
            cases ob <;> first | rfl | skip
            rename_i st2 pe2 tm3 sz3 ps3 asg3 bo3 D3
            cases st2 <;> first | rfl | skip
            all_goals
              simp only
              cases h2.put s.h.nx (some (.loop .exhausted pe2 tm3 sz3 ps3 asg3 bo3 D3)) with
              | none => rfl
              | some h3 => cases pe2 with
            | none => rfl
            | some c => cases c <;> rfl
theorem loopT_sel {c : Code} : ∀ {m : Nat} {s : St}, (loopT rec m c s).sel = loopA rec.rc m c s
  | 0, s => rfl
  | m + 1, s => by
    unfold loopT loopA
    rw [T.sel_bind]
    rw [show rec.rc.code c s = (rec.code c s).sel from rfl]
    cases (rec.code c s).sel with
    | none => rfl
    | some p =>
      obtain ⟨x, s'⟩ := p
      cases x with
      | nm => exact loopT_sel
      | ex id => rfl
      | rt => rfl
theorem stepT_sel {n : Nat} {c : Code} {s : St} : (stepT P rec n c s).sel = execStep P rec.rc n c s := by
  rw [execStep_eq]
  unfold stepT
  cases c with
  | seq a b =>
    simp only [T.sel_bind]
    rw [show rec.rc.code a s = (rec.code a s).sel from rfl]
    cases (rec.code a s).sel with
    | none => rfl
    | some p => obtain ⟨x, s'⟩ := p; cases x <;> rfl
  | cond c t e =>
    simp only
    cases evT s.tm c <;> first | rfl | (simp only [sel_cond]; rfl)
  | block id c =>
    simp only [T.sel_bind]
    rw [show rec.rc.code c s = (rec.code c s).sel from rfl]
    cases (rec.code c s).sel with
    | none => rfl
    | some p => obtain ⟨x, s'⟩ := p; cases x <;> first | rfl | (simp only [sel_cond]; rfl)
  | loop c => exact loopT_sel
  | region id ops d =>
    cases d with
    | false =>
      simp only [T.sel_bind, opsT_sel]
      cases opsA P rec.rc ops.toList ops.toList s <;> rfl
    | true =>
      simp only [T.sel_bind, drawT_sel]
      cases drawA P rec.rc ops.toList ops.toList 0 [] s <;> rfl
  | rangeFunc f ps asg bo => exact rangeT_sel
  | _ => rfl
end
theorem execT_sel {P : Program} {sm : FuncId → Option Sm} : ∀ {n : Nat} {c : Code} {s : St}, (execT P sm n c s).sel = exec P sm n c s
  | 0, _, _ => rfl
  | n + 1, c, s => by
    show (stepT P ⟨execT P sm n, sm⟩ n c s).sel = execStep P ⟨exec P sm n, sm⟩ n c s
    rw [stepT_sel]
    congr 1
    unfold RcT.rc
    congr 1
    funext c s
    exact execT_sel
end Go.Proofs.YtiikiphkhfmlcaaGreatDoor.Ex
