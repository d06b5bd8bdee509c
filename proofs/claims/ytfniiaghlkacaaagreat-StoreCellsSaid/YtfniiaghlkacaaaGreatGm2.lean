/- The shallow reading is sound: operations. -/
import Derived.Test.YtfniiaghlkacaaaGreatGm1
import Derived.Test.YtfniiaghlkacaaaGreatAm2
namespace Go.AM.G
open Go Go.AM
set_option linter.unusedSimpArgs false

def Sub (e e' : Env) : Prop := ∀ n v, e.get n = some v → e'.get n = some v

theorem Sub.put {e e' : Env} (s : Sub e e') (n : Nat) (v : AV) : Sub (e.put n (some v)) (e'.put n (some v)) := by
  intro m u hu
  rw [Tr.get_put] at hu ⊢
  split
  · rename_i hm; rw [if_pos hm] at hu; exact hu
  · rename_i hm; rw [if_neg hm] at hu; exact s m u hu

theorem Sub.cut {e e' : Env} (s : Sub e e') (n : Nat) (x : Option AV) : Sub (e.put n none) (e'.put n x) := by
  intro m u hu
  rw [Tr.get_put] at hu ⊢
  split
  · rename_i hm; rw [if_pos hm] at hu; cases hu
  · rename_i hm; rw [if_neg hm] at hu; exact s m u hu

theorem Sub.setD {e e' : Env} (s : Sub e e') (d : Option Nat) (v : AV) : Sub (F.setD e d (some v)) (setD e' d (some v)) := by
  rw [F.setD_eq]
  cases d with
  | none => exact s
  | some n => exact s.put n v

theorem Sub.setN {e e' : Env} (s : Sub e e') (d : Option Nat) (x : Option AV) : Sub (F.setD e d none) (AM.setD e' d x) := by
  rw [F.setD_eq]
  cases d with
  | none => exact s
  | some n => exact s.cut n x

theorem ob_some {α β : Type} {o : Option α} {f : α → Option β} {b : β} : F.ob o f = some b ↔ ∃ a, o = some a ∧ f a = some b := by
  cases o with
  | none => simp [F.ob_eq]
  | some a => simp [F.ob_eq]

theorem obh_some {β : Type} {o : Option (AV × H)} {f : AV → H → Option β} {b : β} : obh o f = some b ↔ ∃ v h, o = some (v, h) ∧ f v h = some b := by
  unfold obh
  rw [ob_some]
  constructor
  · rintro ⟨⟨v, h⟩, h1, h2⟩; exact ⟨v, h, h1, h2⟩
  · rintro ⟨v, h, h1, h2⟩; exact ⟨(v, h), h1, h2⟩

@[simp] theorem evc (e : Env) (v : AV) : X.ev e (.c v) = some v := rfl

variable {e e' : Env}

theorem subX_ok (s : Sub e e') {x x' : X} (h : subX e x = some x') : ∃ v, x' = .c v ∧ x.ev e' = some v := by
  cases x with
  | t n =>
    simp only [subX, ob_some, F.get_eq, Option.some.injEq] at h
    obtain ⟨v, h1, rfl⟩ := h
    exact ⟨v, rfl, s _ _ h1⟩
  | c v =>
    simp only [subX, Option.some.injEq] at h
    exact ⟨v, h.symm, rfl⟩

theorem subXs_ok (s : Sub e e') : ∀ {xs xs' : List X}, subXs e xs = some xs' → ∃ vs, xs' = vs.map X.c ∧ evs e' xs = some vs
  | [], xs', h => by simp only [subXs, Option.some.injEq] at h; exact ⟨[], h.symm, rfl⟩
  | x :: xs, xs', h => by
    simp only [subXs, ob_some, Option.some.injEq] at h
    obtain ⟨x1, h1, x2, h2, rfl⟩ := h
    obtain ⟨v, rfl, hv⟩ := subX_ok s h1
    obtain ⟨vs, rfl, hvs⟩ := subXs_ok s h2
    exact ⟨v :: vs, rfl, by simp [evs, hv, hvs]⟩

theorem evs_map (e : Env) : ∀ vs : List AV, evs e (vs.map X.c) = some vs
  | [] => rfl
  | v :: vs => by simp [evs, evs_map e vs]

theorem addrs_evs {e1 e2 : Env} : ∀ {xs ys : List X}, evs e1 xs = evs e2 ys → (evs e1 xs).isSome → addrs e1 xs = addrs e2 ys
  | [], [], _, _ => rfl
  | [], y :: ys, h, _ => by
    simp only [evs] at h
    cases h1 : y.ev e2 <;> rw [h1] at h
    · cases h
    · cases h2 : evs e2 ys <;> rw [h2] at h <;> simp at h
  | x :: xs, [], h, _ => by
    simp only [evs] at h
    cases h1 : x.ev e1 <;> rw [h1] at h
    · cases h
    · cases h2 : evs e1 xs <;> rw [h2] at h <;> simp at h
  | x :: xs, y :: ys, h, hs => by
    simp only [evs] at h hs
    cases h1 : x.ev e1 <;> rw [h1] at h hs
    · simp at hs
    · cases h2 : evs e1 xs <;> rw [h2] at h hs
      · simp at hs
      · cases h3 : y.ev e2 <;> rw [h3] at h
        · simp at h
        · cases h4 : evs e2 ys <;> rw [h4] at h
          · simp at h
          · simp only [Option.some.injEq, List.cons.injEq] at h
            obtain ⟨rfl, rfl⟩ := h
            simp only [addrs, h1, h3]
            rw [addrs_evs (h2.trans h4.symm) (by rw [h2]; rfl)]

theorem subPs_ok (s : Sub e e') : ∀ {ps ps' : List (Nat × Nat × X)}, subPs e ps = some ps' → ∀ z, fill e' z ps = fill .nil z ps'
  | [], ps', h, z => by simp only [subPs, Option.some.injEq] at h; subst h; rfl
  | (a, b, x) :: ps, ps', h, z => by
    simp only [subPs, ob_some, Option.some.injEq] at h
    obtain ⟨x1, h1, x2, h2, rfl⟩ := h
    obtain ⟨v, rfl, hv⟩ := subX_ok s h1
    simp only [fill, hv, evc]
    cases (some v).bind AV.cs with
    | none => rfl
    | some vs =>
      simp only
      split
      · exact subPs_ok s h2 _
      · rfl

theorem subO_ok (s : Sub e e') {x x' : Option X} (h : subO e x = some x') (d y : Nat) : bound e' d y x = bound .nil d y x' ∧ x.isSome = x'.isSome ∧ x.isNone = x'.isNone := by
  cases x with
  | none => simp only [subO, Option.some.injEq] at h; subst h; exact ⟨rfl, rfl, rfl⟩
  | some x =>
    simp only [subO, ob_some, Option.some.injEq] at h
    obtain ⟨x1, h1, rfl⟩ := h
    obtain ⟨v, rfl, hv⟩ := subX_ok s h1
    refine ⟨?_, rfl, rfl⟩
    simp only [bound, hv, evc]

theorem slc_sub (s : Sub e e') {lo hi mx lo' hi' mx' : Option X} (h1 : subO e lo = some lo') (h2 : subO e hi = some hi') (h3 : subO e mx = some mx') (sh : Sh) (v : AV) : slc e' sh v lo hi mx = slc .nil sh v lo' hi' mx' := by
  unfold slc
  simp only [(subO_ok s h3 0 0).2.1, (subO_ok s h2 0 0).2.2, fun d y => (subO_ok s h1 d y).1, fun d y => (subO_ok s h2 d y).1, fun d y => (subO_ok s h3 d y).1]

/-- The same operation, with values. -/
def Same (e' : Env) (op op' : Op) : Prop := (∀ cl h, step1 cl e' h op = step1 cl .nil h op') ∧ (∀ h, readOp e' h op = readOp .nil h op') ∧ op.cls = op'.cls ∧ rdId e' op = rdId .nil op'

theorem sub_ok (s : Sub e e') {op op' : Op} (h : sub e op = some op') : Same e' op op' := by
  cases op
  case pick c a b =>
    simp only [sub, ob_some, Option.some.injEq] at h
    obtain ⟨x1, h1, x2, h2, x3, h3, rfl⟩ := h
    obtain ⟨v1, rfl, e1⟩ := subX_ok s h1
    obtain ⟨v2, rfl, e2⟩ := subX_ok s h2
    obtain ⟨v3, rfl, e3⟩ := subX_ok s h3
    exact ⟨fun cl h => by simp [step1, Op.cls, pureOp, e1, e2, e3], fun h => rfl, rfl, rfl⟩
  case mupd g ks c a b =>
    simp only [sub, ob_some, Option.some.injEq] at h
    obtain ⟨x1, h1, x2, h2, x3, h3, rfl⟩ := h
    obtain ⟨v1, rfl, e1⟩ := subX_ok s h1
    obtain ⟨v2, rfl, e2⟩ := subX_ok s h2
    obtain ⟨v3, rfl, e3⟩ := subX_ok s h3
    exact ⟨fun cl h => by simp [step1, Op.cls, actOp, e1, e2, e3], fun h => rfl, rfl, rfl⟩
  case alloc =>
    simp only [sub, Option.some.injEq] at h
    subst h
    exact ⟨fun cl h => rfl, fun h => rfl, rfl, rfl⟩
  case mkmap =>
    simp only [sub, Option.some.injEq] at h
    subst h
    exact ⟨fun cl h => rfl, fun h => rfl, rfl, rfl⟩
  case build z ps =>
    simp only [sub, ob_some, Option.some.injEq] at h
    obtain ⟨x1, h1, rfl⟩ := h
    exact ⟨fun cl h => by simp [step1, Op.cls, pureOp, subPs_ok s h1], fun h => rfl, rfl, rfl⟩
  case bslice t sz len z ps =>
    simp only [sub, ob_some, Option.some.injEq] at h
    obtain ⟨x1, h1, rfl⟩ := h
    exact ⟨fun cl h => by simp [step1, Op.cls, makeOp, subPs_ok s h1], fun h => rfl, rfl, rfl⟩
  case mx xs =>
    simp only [sub, ob_some, Option.some.injEq] at h
    obtain ⟨x1, h1, rfl⟩ := h
    obtain ⟨vs, rfl, hv⟩ := subXs_ok s h1
    exact ⟨fun cl h => by simp [step1, Op.cls, pureOp, hv, evs_map], fun h => rfl, rfl, rfl⟩
  case mn xs =>
    simp only [sub, ob_some, Option.some.injEq] at h
    obtain ⟨x1, h1, rfl⟩ := h
    obtain ⟨vs, rfl, hv⟩ := subXs_ok s h1
    exact ⟨fun cl h => by simp [step1, Op.cls, pureOp, hv, evs_map], fun h => rfl, rfl, rfl⟩
  case mkfn f a b =>
    simp only [sub, ob_some, Option.some.injEq] at h
    obtain ⟨x1, h1, x2, h2, rfl⟩ := h
    obtain ⟨vs, rfl, hv⟩ := subXs_ok s h1
    obtain ⟨us, rfl, hu⟩ := subXs_ok s h2
    have a1 : addrs e' a = addrs .nil (vs.map X.c) := addrs_evs (by rw [hv, evs_map]) (by rw [hv]; rfl)
    have a2 : addrs e' b = addrs .nil (us.map X.c) := addrs_evs (by rw [hu, evs_map]) (by rw [hu]; rfl)
    exact ⟨fun cl h => by simp [step1, Op.cls, pureOp, a1, a2], fun h => rfl, rfl, rfl⟩
  case slc sh x lo hi mx =>
    simp only [sub, ob_some, Option.some.injEq] at h
    obtain ⟨x1, h1, x2, h2, x3, h3, x4, h4, rfl⟩ := h
    obtain ⟨v, rfl, hv⟩ := subX_ok s h1
    exact ⟨fun cl h => by simp [step1, Op.cls, pureOp, hv, slc_sub s h2 h3 h4], fun h => rfl, rfl, rfl⟩
  case call f args =>
    simp only [sub, ob_some, Option.some.injEq] at h
    obtain ⟨x1, h1, rfl⟩ := h
    obtain ⟨vs, rfl, hv⟩ := subXs_ok s h1
    exact ⟨fun cl h => by simp [step1, Op.cls, actOp, hv, evs_map], fun h => rfl, rfl, rfl⟩
  case callv f args =>
    simp only [sub, ob_some, Option.some.injEq] at h
    obtain ⟨x0, h0, x1, h1, rfl⟩ := h
    obtain ⟨v, rfl, hv0⟩ := subX_ok s h0
    obtain ⟨vs, rfl, hv⟩ := subXs_ok s h1
    exact ⟨fun cl h => by simp [step1, Op.cls, actOp, hv, hv0, evs_map], fun h => rfl, rfl, rfl⟩
  all_goals simp only [sub, ob_some, Option.some.injEq] at h
  all_goals first
    | (obtain ⟨x1, h1, rfl⟩ := h
       obtain ⟨v1, rfl, e1⟩ := subX_ok s h1
       exact ⟨fun cl h => by simp [step1, Op.cls, pureOp, readOp, makeOp, actOp, e1], fun h => by simp [readOp, e1], rfl, by simp [rdId, e1]⟩)
    | (obtain ⟨x1, h1, x2, h2, rfl⟩ := h
       obtain ⟨v1, rfl, e1⟩ := subX_ok s h1
       obtain ⟨v2, rfl, e2⟩ := subX_ok s h2
       exact ⟨fun cl h => by simp [step1, Op.cls, pureOp, readOp, makeOp, actOp, e1, e2], fun h => by simp [readOp, e1, e2], rfl, by simp [rdId, e1]⟩)

/-! ### values -/

theorem get_nil (n : Nat) : (Tr.nil : Env).get n = none := by cases n <;> rfl

theorem fld_eq (off : Nat) (v : AV) : fld off v = pureOp .nil (.fld off (.c v)) := by
  simp only [fld, pureOp, X.ev, F.onPtr]
  rcases v with (_ | _ | _ | (_ | ⟨i, o⟩) | _ | _ | _ | _) | _ | _ <;> rfl

theorem nilck_eq (v : AV) : nilck v = pureOp .nil (.nilck (.c v)) := by
  simp only [nilck, pureOp, X.ev, F.onPtr]
  rcases v with (_ | _ | _ | (_ | ⟨i, o⟩) | _ | _ | _ | _) | _ | _ <;> rfl

theorem conv_eq (k : IntKind) (v : AV) : conv k v = pureOp .nil (.conv k (.c v)) := by
  simp only [conv, pureOp, X.ev, F.onInt]
  rcases v with (_ | _ | _ | (_ | ⟨i, o⟩) | _ | _ | _ | _) | _ | _ <;> rfl

theorem idxa_eq (sh : Sh) (v i : AV) : idxa sh v i = pureOp .nil (.idxa sh (.c v) (.c i)) := by
  have h := F.step_eq (fun _ _ _ => none) (.idxa sh (.c v) (.c i)) .nil ⟨.nil, 0⟩
  simp only [step1, Op.cls] at h
  have h2 : F.step (fun _ _ _ => none) (.idxa sh (.c v) (.c i)) .nil ⟨.nil, 0⟩ = match idxa sh v i with
    | some v => some (some v, ⟨.nil, 0⟩)
    | none => none := by
    simp only [F.step, F.ob_eq, F.ev_eq, X.ev, idxa, F.onInt]
    rcases i with (⟨k, n⟩ | _ | _ | (_ | ⟨i, o⟩) | _ | _ | _ | _) | _ | _ <;> try rfl
    cases sh with
    | str => rfl
    | arr l sz =>
      simp only [F.idxa, F.onPtr]
      rcases v with (_ | _ | _ | (_ | ⟨b, o⟩) | (_ | ⟨_, _⟩) | _ | _ | _) | _ | _ <;> try rfl
      simp only [F.ifb_eq, F.gv]
      split <;> rfl
    | sl sz =>
      simp only [F.idxa]
      rcases v with (_ | _ | _ | (_ | ⟨b, o⟩) | ⟨(_ | ⟨b, o⟩), len, _, _, z⟩ | _ | _ | _) | _ | _ <;> try rfl
      simp only [F.ifb_eq, F.gv]
      split <;> rfl
  rw [h2] at h
  cases h3 : idxa sh v i <;> cases h4 : pureOp Tr.nil (.idxa sh (.c v) (.c i)) <;> rw [h3, h4] at h <;> simp at h
  all_goals first | rfl | exact congrArg some h

theorem ld_eq (a : Bool) (n : Nat) (v : AV) (h : H) : ld a n v h = readOp .nil h (.ld a n (.c v)) := by
  simp only [ld, readOp, X.ev, F.onPtr]
  rcases v with (_ | _ | _ | (_ | ⟨i, o⟩) | _ | _ | _ | _) | _ | _ <;> try rfl
  exact F.ld_eq ..

theorem val_ok {op : Op} {h : H} (hs : sort op = .v) : (op.cls = .pure ∧ val op h = pureOp .nil op) ∨ (op.cls = .read ∧ val op h = readOp .nil h op) := by
  cases op <;> simp only [sort, reduceCtorEq] at hs
  case bin o x y =>
    left; refine ⟨rfl, ?_⟩
    cases x <;> cases y <;> simp only [val, pv]
    simp [F.bin_eq, pureOp, X.ev]
  case fld o x => left; refine ⟨rfl, ?_⟩; cases x <;> simp only [val, pv]; exact fld_eq ..
  case nilck x => left; refine ⟨rfl, ?_⟩; cases x <;> simp only [val, pv]; exact nilck_eq ..
  case conv k x => left; refine ⟨rfl, ?_⟩; cases x <;> simp only [val, pv]; exact conv_eq ..
  case mv x => left; refine ⟨rfl, ?_⟩; cases x <;> simp only [val, pv]; rfl
  case idxa sh x y => left; refine ⟨rfl, ?_⟩; cases x <;> cases y <;> simp only [val, pv]; exact idxa_eq ..
  case ld a n x =>
    right; refine ⟨rfl, ?_⟩
    cases x <;> simp only [val, pv]
    · simp [pureOp, readOp, X.ev, get_nil]
    · exact ld_eq ..
  case lookup => right; exact ⟨rfl, rfl⟩
  case b2s => right; exact ⟨rfl, rfl⟩
  all_goals (left; exact ⟨rfl, rfl⟩)

theorem val_step {op : Op} {h : H} {v : AV} (cl : Cl) (hs : sort op = .v) (hv : val op h = some v) : step1 cl .nil h op = some (some v, h) := by
  rcases val_ok (h := h) hs with ⟨h1, h2⟩ | ⟨h1, h2⟩
  · simp only [step1, h1, ← h2, hv]
  · simp only [step1, h1, ← h2, hv]

theorem mkv_step {op : Op} {h h' : H} {v : AV} (cl : Cl) (hs : sort op = .k) (hv : mkv op h = some (v, h')) : op.cls = .make ∧ step1 cl .nil h op = some (some v, h') := by
  have hc : op.cls = .make := by cases op <;> simp [sort] at hs <;> rfl
  refine ⟨hc, ?_⟩
  simp only [mkv, ob_some, Option.some.injEq, Prod.mk.injEq] at hv
  obtain ⟨r, h1, rfl, rfl⟩ := hv
  simp only [step1, hc, h1, F.hnew_eq]

theorem av_step {op : Op} {h h' : H} {v : AV} (cl : Cl) (hv : av op h = some (v, h')) : actOp cl .nil h op = some (some v, h') := by
  unfold av at hv
  split at hv
  · rename_i h1
    cases hv
    exact actOp_mono (fun _ _ _ _ q => by cases q) h1
  · cases hv

theorem avn_step {op : Op} {h h' : H} (cl : Cl) (hv : avn op h = some h') : actOp cl .nil h op = some (none, h') := by
  unfold avn at hv
  split at hv
  · rename_i h1
    cases hv
    exact actOp_mono (fun _ _ _ _ q => by cases q) h1
  · cases hv

theorem vals_ok : ∀ {l : List X} {vs : List AV}, vals l = some vs → evs .nil l = some vs
  | [], vs, h => by simp only [vals, Option.some.injEq] at h; subst h; rfl
  | .c v :: l, vs, h => by
    simp only [vals, ob_some, Option.some.injEq] at h
    obtain ⟨us, h1, rfl⟩ := h
    simp [evs, X.ev, vals_ok h1]
  | .t n :: l, vs, h => by simp [vals] at h

theorem act_step {cl cl' : Cl} (hc : Le cl cl') {op : Op} {h h' : H} {v : AV} (hs : sort op = .a) (hv : act cl op h = some (v, h')) : op.cls = .act ∧ step1 cl' .nil h op = some (some v, h') := by
  have hcl : op.cls = .act := by cases op <;> simp [sort] at hs <;> rfl
  refine ⟨hcl, ?_⟩
  simp only [step1, hcl]
  cases op <;> simp [sort] at hs
  case call f args =>
    simp only [act, ob_some] at hv
    obtain ⟨vs, h1, h2⟩ := hv
    simp [actOp, vals_ok h1, hc _ _ _ _ h2]
  case callv f args =>
    cases f with
    | t n => exact av_step cl' hv
    | c f =>
      simp only [act, ob_some] at hv
      obtain ⟨vs, h1, h2⟩ := hv
      unfold callv at h2
      split at h2
      · rename_i f first caps
        have h2 := hc _ _ _ _ h2
        simp only [List.append_assoc] at h2
        simp [actOp, X.ev, vals_ok h1, h2]
      · cases h2
  all_goals exact av_step cl' hv

theorem st_step {n : Nat} {a v : AV} {h h' : H} (cl : Cl) (hv : st n a v h = some h') : actOp cl .nil h (.st n (.c a) (.c v)) = some (none, h') := by
  simp only [st, ob_some] at hv
  obtain ⟨vs, h1, h2⟩ := hv
  rcases a with (_ | _ | _ | (_ | ⟨i, o⟩) | _ | _ | _ | _) | _ | _ <;> simp only [F.onPtr, reduceCtorEq] at h2
  simp only [ob_some, F.st_eq, Option.some.injEq] at h2
  obtain ⟨⟨q, h''⟩, h3, rfl⟩ := h2
  have h4 : actOp cl .nil h (.st n (.c (.s (.ptr (some (i, o))))) (.c v)) = some (q, h'') := by
    rw [← h3]
    simp only [actOp, X.ev, Option.bind_some, h1]
    rfl
  rw [h4]
  split at h3
  · split at h3
    · cases h3; rfl
    · cases h3
  · cases h3

theorem actn_step {op : Op} {h h' : H} (cl : Cl) (hs : sort op = .n) (hv : actn op h = some h') : op.cls = .act ∧ step1 cl .nil h op = some (none, h') := by
  have hcl : op.cls = .act := by cases op <;> simp [sort] at hs <;> rfl
  refine ⟨hcl, ?_⟩
  simp only [step1, hcl]
  cases op <;> simp [sort] at hs
  case st n a v =>
    cases a <;> cases v <;> simp only [actn] at hv
    case c.c => exact st_step cl hv
    all_goals exact avn_step cl hv
  all_goals exact avn_step cl hv

end Go.AM.G
