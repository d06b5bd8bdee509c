/- A twin of the evaluator that is cheap for the kernel: operations, code, calls. -/
import Derived.Test.YtfniiaghlkacaaaGreatAm20
namespace Go.AM.F
open Go Go.AM
set_option linter.unusedSimpArgs false
noncomputable section

abbrev Cl := FuncId → List AV → H → Option (AV × H)

def pt (i o : Nat) : AV := .s (.ptr (some (i, o)))
def gv (h : H) (v : AV) : Option (Option AV × H) := some (some v, h)

def idxa (sh : Sh) (v : AV) (n : Int) (h : H) : Option (Option AV × H) := match sh with
  | .arr l sz => onPtr v fun b o => ifb (and (not (ltI n 0)) (ltI n l)) (gv h (pt b (Nat.add o (Nat.mul n.toNat sz)))) none
  | .sl sz => match v with
    | .s (.sl (some (b, o)) len _ _ z) => ifb (and (Nat.beq z sz) (and (not (ltI n 0)) (ltI n len))) (gv h (pt b (Nat.add o (Nat.mul n.toNat sz)))) none
    | _ => none
  | .str => none

def step (cl : Cl) (op : Op) : Env → H → Option (Option AV × H) := match op with
  | .mv x => fun e h => ob (ev x e) (gv h)
  | .bin o x y => fun e h => ob (ev x e) fun a => ob (ev y e) fun b => ob (bin o a b) (gv h)
  | .fld off x => fun e h => ob (ev x e) fun v => onPtr v fun i o => gv h (pt i (Nat.add o off))
  | .nilck x => fun e h => ob (ev x e) fun v => onPtr v fun i o => gv h (pt i o)
  | .conv k x => fun e h => ob (ev x e) fun v => onInt v fun _ n => gv h (.s (.int k (k.wrap n)))
  | .idxa sh x i => fun e h => ob (ev x e) fun v => ob (ev i e) fun iv => onInt iv fun _ n => idxa sh v n h
  | .ld a n x => fun e h => ob (ev x e) fun v => onPtr v fun i o => ob (ld a n h i o) (gv h)
  | .st n a v => fun e h => ob (ev a e) fun a => ob (ob (ev v e) AV.cs) fun vs => onPtr a fun i o => st n h i o vs
  | .call f args => fun e h => ob (evs args e) fun vs => ob (cl f vs h) fun r => some (some r.1, r.2)
  | op => fun e h => step1 cl e h op

theorem step_eq (cl : Cl) (op : Op) (e : Env) (h : H) : step cl op e h = step1 cl e h op := by
  cases op
  case mv x =>
    simp only [step, step1, Op.cls, pureOp, ob_eq, ev_eq]
    cases X.ev e x <;> rfl
  case bin o x y =>
    simp only [step, step1, Op.cls, pureOp, ob_eq, ev_eq, bin_eq]
    cases X.ev e x <;> cases X.ev e y <;> simp [gv]
    rename_i a b
    cases AM.bin o a b <;> rfl
  case fld off x =>
    simp only [step, step1, Op.cls, pureOp, ob_eq, ev_eq]
    cases X.ev e x with
    | none => rfl
    | some v =>
      simp only [onPtr]
      rcases v with (_ | _ | _ | (_ | ⟨i, o⟩) | _ | _ | _ | _) | _ | _ <;> rfl
  case nilck x =>
    simp only [step, step1, Op.cls, pureOp, ob_eq, ev_eq]
    cases X.ev e x with
    | none => rfl
    | some v =>
      simp only [onPtr]
      rcases v with (_ | _ | _ | (_ | ⟨i, o⟩) | _ | _ | _ | _) | _ | _ <;> rfl
  case conv k x =>
    simp only [step, step1, Op.cls, pureOp, ob_eq, ev_eq]
    cases X.ev e x with
    | none => rfl
    | some v =>
      simp only [onInt]
      rcases v with (_ | _ | _ | (_ | ⟨i, o⟩) | _ | _ | _ | _) | _ | _ <;> rfl
  case idxa sh x i =>
    simp only [step, step1, Op.cls, pureOp, ob_eq, ev_eq]
    cases X.ev e x with
    | none => cases sh <;> rfl
    | some v =>
      cases X.ev e i with
      | none => rcases v with (_ | _ | _ | (_ | ⟨i, o⟩) | (_ | ⟨_, _⟩) | _ | _ | _) | _ | _ <;> cases sh <;> rfl
      | some iv =>
        simp only [onInt]
        rcases iv with (⟨k, n⟩ | _ | _ | (_ | ⟨i, o⟩) | _ | _ | _ | _) | _ | _
        case s.int =>
          cases sh with
          | str => rcases v with (_ | _ | _ | (_ | ⟨i, o⟩) | (_ | ⟨_, _⟩) | _ | _ | _) | _ | _ <;> rfl
          | arr l sz =>
            simp only [idxa, onPtr]
            rcases v with (_ | _ | _ | (_ | ⟨b, o⟩) | (_ | ⟨_, _⟩) | _ | _ | _) | _ | _ <;> try rfl
            simp only [ifb_eq, ltI_eq, Bool.and_eq_true, Bool.not_eq_true', decide_eq_false_iff_not, decide_eq_true_eq, Int.not_lt, gv, pt]
            by_cases hc : 0 ≤ n ∧ n < (l : Int) <;> simp [hc]
          | sl sz =>
            simp only [idxa]
            rcases v with (_ | _ | _ | (_ | ⟨b, o⟩) | ⟨(_ | ⟨b, o⟩), len, _, _, z⟩ | _ | _ | _) | _ | _ <;> try rfl
            simp only [ifb_eq, ltI_eq, Bool.and_eq_true, Bool.not_eq_true', decide_eq_false_iff_not, decide_eq_true_eq, Int.not_lt, gv, pt]
            by_cases hc : z = sz ∧ 0 ≤ n ∧ n < (len : Int)
            · simp [hc]
            · rw [if_neg, if_neg hc]
              rintro ⟨a, b⟩; exact hc ⟨by simpa using a, b⟩
        all_goals rcases v with (_ | _ | _ | (_ | ⟨b, o⟩) | ⟨(_ | ⟨b, o⟩), len, _, _, z⟩ | _ | _ | _) | _ | _ <;> cases sh <;> rfl
  case ld a n x =>
    simp only [step, step1, Op.cls, readOp, ob_eq, ev_eq]
    cases X.ev e x with
    | none => rfl
    | some v =>
      simp only [onPtr]
      rcases v with (_ | _ | _ | (_ | ⟨i, o⟩) | _ | _ | _ | _) | _ | _ <;> try rfl
      simp only [ob_eq, ld_eq]
      cases cellsAt h i o n with
      | none => rfl
      | some cs => rcases cs with _ | ⟨c, _ | _⟩ <;> cases a <;> rfl
  case st n a v =>
    have hb : ob (ev v e) AV.cs = (X.ev e v).bind AV.cs := by rw [ev_eq]; cases X.ev e v <;> rfl
    simp only [step, step1, Op.cls, actOp, hb]
    simp only [ob_eq, ev_eq]
    cases X.ev e a with
    | none => rfl
    | some av =>
      cases (X.ev e v).bind AV.cs with
      | none => rcases av with (_ | _ | _ | (_ | ⟨i, o⟩) | _ | _ | _ | _) | _ | _ <;> rfl
      | some vs =>
        simp only [onPtr]
        rcases av with (_ | _ | _ | (_ | ⟨i, o⟩) | _ | _ | _ | _) | _ | _ <;> try rfl
        simp only [st_eq]
        cases h.get i with
        | none => rfl
        | some ob => rcases ob with ⟨_, _, _ | _⟩ | _ <;> rfl
  case call f args =>
    simp only [step, step1, Op.cls, actOp, ob_eq, evs_eq]
    cases AM.evs e args with
    | none => rfl
    | some vs => simp only; cases cl f vs h <;> rfl
  all_goals rfl

def runOps (cl : Cl) (os : List Or) : Env → H → Option (Env × H) :=
  List.rec (motive := fun _ => Env → H → Option (Env × H)) (fun e h => some (e, h))
    (fun o _ ih => Option.rec (motive := fun _ => Env → H → Option (Env × H))
      (fun e h => ob (step cl o.op e h) fun r => ih (setD e o.dst r.1) r.2)
      (fun g e h => ob (wants e (some g)) fun b => ifb b (ob (step cl o.op e h) fun r => ih (setD e o.dst r.1) r.2) (ih (setD e o.dst (some (.tup []))) h)) o.guard) os

theorem runOps_eq (cl : Cl) : ∀ (os : List Or) (e : Env) (h : H), runOps cl os e h = AM.runOps cl os e h
  | [], _, _ => rfl
  | o :: os, e, h => by
    obtain ⟨dst, op, g, bef⟩ := o
    have ih := fun e h => runOps_eq cl os e h
    cases g with
    | none =>
      have h1 : runOps cl (⟨dst, op, none, bef⟩ :: os) e h = ob (step cl op e h) fun r => runOps cl os (setD e dst r.1) r.2 := rfl
      rw [h1, ob_eq, step_eq]
      simp only [AM.runOps, wants]
      cases step1 cl e h op with
      | none => rfl
      | some r => simp only [setD_eq, ih]
    | some g =>
      have h1 : runOps cl (⟨dst, op, some g, bef⟩ :: os) e h = ob (wants e (some g)) fun b => ifb b (ob (step cl op e h) fun r => runOps cl os (setD e dst r.1) r.2) (runOps cl os (setD e dst (some (.tup []))) h) := rfl
      rw [h1, ob_eq]
      simp only [AM.runOps]
      cases wants e (some g) with
      | none => rfl
      | some b =>
        cases b with
        | false => simp only [ifb_eq, setD_eq, ih]; rfl
        | true =>
          simp only [ifb_eq, if_true, ob_eq, step_eq]
          cases step1 cl e h op with
          | none => rfl
          | some r => simp only [setD_eq, ih]

def exec (cl : Cl) (k : Nat) : C → Env → H → Option (Ex × Env × H) :=
  Nat.rec (motive := fun _ => C → Env → H → Option (Ex × Env × H)) (fun _ _ _ => none) (fun _ ih c => match c with
    | .skip => fun e h => some (.n, e, h)
    | .reg draw ops ds => fun e h => ob (ifb draw (runOpsD cl ops 0 [] [] e h) (runOps cl ops e h)) fun r => some (.n, drop r.1 ds, r.2)
    | .seq a b => fun e h => ob (ih a e h) fun r => Ex.casesOn (motive := fun _ => Option (Ex × Env × H)) r.1 (ih b r.2.1 r.2.2) (fun _ => some r) (some r)
    | .cond c a b => fun e h => ob (ev c e) fun v => match v with | .s (.bool t) => ifb t (ih a e h) (ih b e h) | _ => none
    | .blk id b => fun e h => ob (ih b e h) fun r => Ex.casesOn (motive := fun _ => Option (Ex × Env × H)) r.1 (some r) (fun i => ifb (Nat.beq i id) (some (.n, r.2.1, r.2.2)) (some r)) (some r)
    | .loop b => fun e h => ob (ih b e h) fun r => Ex.casesOn (motive := fun _ => Option (Ex × Env × H)) r.1 (ih (.loop b) r.2.1 r.2.2) (fun _ => some r) (some r)
    | .exit id => fun e h => some (.x id, e, h)
    | .ret => fun e h => some (.r, e, h)) k

theorem exec_eq (cl : Cl) : ∀ (k : Nat) (c : C) (e : Env) (h : H), exec cl k c e h = AM.exec cl k c e h
  | 0, _, _, _ => rfl
  | k + 1, c, e, h => by
    have ih := fun c e h => exec_eq cl k c e h
    cases c with
    | skip => rfl
    | exit => rfl
    | ret => rfl
    | reg draw ops ds =>
      have h1 : exec cl (k + 1) (.reg draw ops ds) e h = ob (ifb draw (runOpsD cl ops 0 [] [] e h) (runOps cl ops e h)) fun r => some (.n, drop r.1 ds, r.2) := rfl
      rw [h1, ob_eq, ifb_eq, runOps_eq]
      simp only [AM.exec]
      cases (if draw = true then runOpsD cl ops 0 [] [] e h else AM.runOps cl ops e h) <;> rfl
    | seq a b =>
      have h1 : exec cl (k + 1) (.seq a b) e h = ob (exec cl k a e h) fun r => Ex.casesOn (motive := fun _ => Option (Ex × Env × H)) r.1 (exec cl k b r.2.1 r.2.2) (fun _ => some r) (some r) := rfl
      rw [h1, ob_eq, ih]
      simp only [AM.exec, ih]
      cases AM.exec cl k a e h with
      | none => rfl
      | some r => obtain ⟨x, e', h'⟩ := r; cases x <;> rfl
    | cond q a b =>
      have h1 : exec cl (k + 1) (.cond q a b) e h = ob (ev q e) fun v => match v with | .s (.bool t) => ifb t (exec cl k a e h) (exec cl k b e h) | _ => none := rfl
      rw [h1, ob_eq, ev_eq]
      simp only [AM.exec, ih]
      cases X.ev e q with
      | none => rfl
      | some v => rcases v with (_ | (_ | _) | _ | (_ | ⟨i, o⟩) | _ | _ | _ | _) | _ | _ <;> rfl
    | blk id b =>
      have h1 : exec cl (k + 1) (.blk id b) e h = ob (exec cl k b e h) fun r => Ex.casesOn (motive := fun _ => Option (Ex × Env × H)) r.1 (some r) (fun i => ifb (Nat.beq i id) (some (.n, r.2.1, r.2.2)) (some r)) (some r) := rfl
      rw [h1, ob_eq, ih]
      simp only [AM.exec, ih]
      cases AM.exec cl k b e h with
      | none => rfl
      | some r =>
        obtain ⟨x, e', h'⟩ := r
        cases x with
        | n => rfl
        | r => rfl
        | x i =>
          simp only [ifb_eq]
          by_cases hi : i = id
          · subst hi; simp
          · rw [if_neg hi, if_neg (by simpa using hi)]
    | loop b =>
      have h1 : exec cl (k + 1) (.loop b) e h = ob (exec cl k b e h) fun r => Ex.casesOn (motive := fun _ => Option (Ex × Env × H)) r.1 (exec cl k (.loop b) r.2.1 r.2.2) (fun _ => some r) (some r) := rfl
      rw [h1, ob_eq, ih]
      simp only [AM.exec, ih]
      cases AM.exec cl k b e h with
      | none => rfl
      | some r => obtain ⟨x, e', h'⟩ := r; cases x <;> rfl

def setArgs (e : Env) (i : Nat) (vs : List AV) : Env :=
  List.rec (motive := fun _ => Env → Nat → Env) (fun e _ => e) (fun v _ ih e i => ih (put e i (some v)) (Nat.succ i)) vs e i
theorem setArgs_eq : ∀ (vs : List AV) (e : Env) (i : Nat), setArgs e i vs = AM.setArgs e i vs
  | [], _, _ => rfl
  | v :: vs, e, i => by
    have h1 : setArgs e i (v :: vs) = setArgs (put e i (some v)) (i + 1) vs := rfl
    rw [h1, setArgs_eq vs, put_eq]; rfl

def call (tab : FuncId → Option Entry) (k : Nat) : Cl :=
  Nat.rec (motive := fun _ => Cl) (fun _ _ _ => none) (fun k ih f vs h => ob (tab f) fun en => Entry.casesOn (motive := fun _ => Option (AV × H)) en
    (fun fn => ob (exec ih k fn.body (setArgs (Tr.perf fn.depth) 0 vs) h) fun r => Ex.casesOn (motive := fun _ => Option (AV × H)) r.1
      (ob ((results r.2.2 r.2.1 fn.results).bind tupled) fun v => some (v, r.2.2)) (fun _ => none) (ob ((results r.2.2 r.2.1 fn.results).bind tupled) fun v => some (v, r.2.2)))
    (fun p => p vs h)) k

theorem call_eq (tab : FuncId → Option Entry) : ∀ (k : Nat), call tab k = AM.call tab k
  | 0 => rfl
  | k + 1 => by
    funext f vs h
    have h1 : call tab (k + 1) f vs h = ob (tab f) fun en => Entry.casesOn (motive := fun _ => Option (AV × H)) en
      (fun fn => ob (exec (call tab k) k fn.body (setArgs (Tr.perf fn.depth) 0 vs) h) fun r => Ex.casesOn (motive := fun _ => Option (AV × H)) r.1
        (ob ((results r.2.2 r.2.1 fn.results).bind tupled) fun v => some (v, r.2.2)) (fun _ => none) (ob ((results r.2.2 r.2.1 fn.results).bind tupled) fun v => some (v, r.2.2)))
      (fun p => p vs h) := rfl
    rw [h1, ob_eq, call_eq tab k]
    simp only [AM.call]
    cases tab f with
    | none => rfl
    | some en =>
      cases en with
      | prim p => rfl
      | code fn =>
        simp only [ob_eq, exec_eq, setArgs_eq]
        cases AM.exec (AM.call tab k) k fn.body (AM.setArgs (Tr.perf fn.depth) 0 vs) h with
        | none => rfl
        | some r =>
          obtain ⟨x, e', h'⟩ := r
          cases x with
          | x i => rfl
          | n => simp only; cases (results h' e' fn.results).bind tupled <;> rfl
          | r => simp only; cases (results h' e' fn.results).bind tupled <;> rfl

end
end Go.AM.F
