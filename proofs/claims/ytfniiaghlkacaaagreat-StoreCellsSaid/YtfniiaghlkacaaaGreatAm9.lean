/- Conversions, builtins that touch no memory; all of them together. -/
import Derived.Test.YtfniiaghlkacaaaGreatAm8
namespace Go.AM
open Go
set_option linter.unusedSimpArgs false

section
variable {P : Program} {ρ : Ren} {e : Env} {a : Act}

theorem sim_conv (r : EnvRel ρ e a.tmps) {s d : TypeId} {x : Operand} {op : Op} (hc : cOp P (.convert s d x) = some op) (hk : op.cls = .pure) {v : AV} (hv : pureOp e op = some v) (w : World) : GivesOp P ρ a (.convert s d x) w v := by
  simp only [cOp] at hc
  intro dst ty pos aft gd
  split at hc
  · rename_i k1 k2 x' h1 h2 hx
    cases hc
    simp only [pureOp] at hv
    split at hv
    case h_2 => cases hv
    rename_i q n hn
    cases hv
    have he : a.eval x = .int q n := ev_sim r hx hn
    refine ⟨_, ?_, rfl⟩
    simp only [execOp, Sem.run_bind, Go.convert, run_underlying h1, run_underlying h2, Result.andThen_ok, he, Conv.intToInt, Sem.run_pure]
  · rename_i x' h1 h2 hx
    cases hc
    simp only [pureOp] at hv
    split at hv
    case h_2 => cases hv
    rename_i q hn
    cases hv
    have he : a.eval x = .string ⟨q.toArray⟩ := ev_sim r hx hn
    refine ⟨_, ?_, rfl⟩
    simp only [execOp, Sem.run_bind, Go.convert, run_underlying h1, run_underlying h2, Result.andThen_ok, he, Sem.run_pure]
  · split at hc
    · cases hc; cases hk
    · cases hc
  · split at hc
    · cases hc; cases hk
    · cases hc
  · cases hc

theorem builtin_run {b : Builtin} {args : Array Operand} {ts : Array TypeId} (dst : Option Tmp) (ty : TypeId) (pos : String) (aft : Array Edge) (gd : Option (Nat × Bool)) (w : World) :
    ∃ cs, (execOp a.eval ⟨dst, .call { callee := .builtin b, args, argTypes := ts }, ty, pos, aft, gd⟩).run P w = (Go.builtin b ts ty cs (args.map a.eval)).run P w := by
  refine ⟨args.map fun | .const _ => true | _ => false, ?_⟩
  simp only [execOp, Sem.run_bind, resolve, Sem.run_pure, Result.andThen_ok, invoke]
  rfl

theorem list_one {α β : Type} {l : Array α} {x : α} (f : α → β) (h : l.toList = [x]) : l.map f = #[f x] := by
  obtain ⟨l⟩ := l
  simp at h; subst h; simp

theorem list_two {α β : Type} {l : Array α} {x y : α} (f : α → β) (h : l.toList = [x, y]) : l.map f = #[f x, f y] := by
  obtain ⟨l⟩ := l
  simp at h; subst h; simp

theorem arr_one {α : Type} {l : Array α} {x : α} (h : l.toList = [x]) : l = #[x] := by
  obtain ⟨l⟩ := l
  simp at h; subst h; rfl

theorem arr_two {α : Type} {l : Array α} {x y : α} (h : l.toList = [x, y]) : l = #[x, y] := by
  obtain ⟨l⟩ := l
  simp at h; subst h; rfl

theorem max_run (k : IntKind) (x y : Int) (w : World) : (Builtin.max2 (.int k x) (.int k y)).run P w = .ok (.int k (if y > x then y else x)) w := by simp [Builtin.max2]
theorem min_run (k : IntKind) (x y : Int) (w : World) : (Builtin.min2 (.int k x) (.int k y)).run P w = .ok (.int k (if y < x then y else x)) w := by simp [Builtin.min2]

theorem fold_sim (r : EnvRel ρ e a.tmps) {args : Array Operand} {xs : List X} (hx : cXs args.toList = some xs) {f : Int → Int → Int} {g : Value → Value → Sem Value}
    (hg : ∀ k x y (w : World), (g (.int k x) (.int k y)).run P w = .ok (.int k (f x y)) w) {v : AV} (hv : (evs e xs).bind (foldI f) = some v) (w : World) :
    ∃ y0 rest y, (args.map a.eval).toList = y0 :: rest ∧ (rest.foldlM g y0).run P w = .ok y w ∧ VRel ρ v y := by
  simp only [Option.bind_eq_some_iff] at hv
  obtain ⟨vs, hvs, hv⟩ := hv
  have hr := evs_sim r hx hvs
  unfold foldI at hv
  split at hv
  · rename_i k n us
    generalize hl : args.toList.map a.eval = ls at hr
    cases hr with
    | cons h1 h2 =>
      rename_i y0 rest
      cases h1
      obtain ⟨y, hy, q⟩ := foldI_sim (P := P) (ρ := ρ) hg us rest k n v h2 hv w
      exact ⟨_, rest, y, by simpa using hl, hy, q⟩
  · cases hv

theorem sim_builtin (r : EnvRel ρ e a.tmps) {b : Builtin} {args : Array Operand} {ts : Array TypeId} {op : Op} (hc : cOp P (.call { callee := .builtin b, args, argTypes := ts }) = some op) (hk : op.cls = .pure)
    {v : AV} (hv : pureOp e op = some v) (w : World) : GivesOp P ρ a (.call { callee := .builtin b, args, argTypes := ts }) w v := by
  intro dst ty pos aft gd
  obtain ⟨cs, hrun⟩ := builtin_run (P := P) (a := a) (b := b) (args := args) (ts := ts) dst ty pos aft gd w
  rw [hrun]
  simp only [cOp] at hc
  unfold cBuiltin at hc
  split at hc
  · split at hc
    · split at hc
      · split at hc
        · cases hc; cases hk
        · cases hc
      · cases hc
    · split at hc
      · split at hc
        · cases hc; cases hk
        · cases hc
      · cases hc
    · cases hc
  · -- len
    rename_i t x h1 h2
    have ha := list_one a.eval h2
    have ht := arr_one h1
    rw [ha, ht]
    split at hc
    · rename_i n el x' hu hx
      cases hc
      simp only [pureOp] at hv
      cases hv
      refine ⟨_, ?_, rfl⟩
      simp [Go.builtin, Builtin.len_, run_underlying hu, goInt]
    · rename_i x' hu hx
      cases hc
      simp only [pureOp] at hv
      split at hv <;> first | (cases hv; done) | skip
      · rename_i hs1 hs2; first | exact absurd hs2 (by simp) | exact absurd hs1 (by simp)
      · rename_i s _ hs
        cases hv
        have he : a.eval x = .string ⟨s.toArray⟩ := ev_sim r hx hs
        refine ⟨_, ?_, rfl⟩
        simp [Go.builtin, Builtin.len_, run_underlying hu, goInt, he, size_mk]
      · rename_i hs1 hs2; first | exact absurd hs2 (by simp) | exact absurd hs1 (by simp)
    · rename_i el x' hu hx
      cases hc
      simp only [pureOp] at hv
      split at hv <;> first | (cases hv; done) | skip
      · rename_i hs1 hs2; first | exact absurd hs2 (by simp) | exact absurd hs1 (by simp)
      · rename_i hs1 hs2; first | exact absurd hs2 (by simp) | exact absurd hs1 (by simp)
      · rename_i ad len cap ex z _ hs
        cases hv
        have he := ev_sim r hx hs
        have : ∃ p c, a.eval x = .slice p len c := by
          rcases ad with _ | ⟨i, o⟩
          · obtain ⟨rfl, _, _, he⟩ := he; exact ⟨_, _, he⟩
          · obtain ⟨_, _, _, _, he, _⟩ := he; exact ⟨_, _, he⟩
        obtain ⟨p, c, he⟩ := this
        refine ⟨_, ?_, rfl⟩
        simp [Go.builtin, Builtin.len_, run_underlying hu, goInt, he]
    · cases hc
  · -- cap
    rename_i t x h1 h2
    have ha := list_one a.eval h2
    have ht := arr_one h1
    rw [ha, ht]
    split at hc
    · rename_i n el x' hu hx
      cases hc
      simp only [pureOp] at hv
      cases hv
      refine ⟨_, ?_, rfl⟩
      simp [Go.builtin, Builtin.cap_, run_underlying hu, goInt]
    · rename_i el x' hu hx
      cases hc
      simp only [pureOp] at hv
      split at hv <;> first | (cases hv; done) | skip
      rename_i ad len cap z hs
      cases hv
      have he := ev_sim r hx hs
      have : ∃ p l, a.eval x = .slice p l cap := by
        rcases ad with _ | ⟨i, o⟩
        · obtain ⟨_, rfl, _, he⟩ := he; exact ⟨_, _, he⟩
        · obtain ⟨_, _, _, _, he, _, _, hex, _⟩ := he
          have := hex rfl
          subst this
          exact ⟨_, _, he⟩
      obtain ⟨p, l, he⟩ := this
      refine ⟨_, ?_, rfl⟩
      simp [Go.builtin, Builtin.cap_, run_underlying hu, goInt, he]
    · cases hc
  · split at hc
    · simp only [Option.map_eq_some_iff] at hc
      obtain ⟨_, _, rfl⟩ := hc
      cases hk
    · cases hc
  · split at hc
    · split at hc
      · split at hc
        · cases hc; cases hk
        · cases hc
      · cases hc
    · cases hc
  · simp only [Option.map_eq_some_iff] at hc
    obtain ⟨xs, hx, rfl⟩ := hc
    simp only [pureOp] at hv
    obtain ⟨y0, rest, y, h1, h2, q⟩ := fold_sim (P := P) r hx max_run hv w
    refine ⟨y, ?_, q⟩
    simp only [Go.builtin, Builtin.max_, h1, Sem.run_bind, h2, Result.andThen_ok, Sem.run_pure]
  · simp only [Option.map_eq_some_iff] at hc
    obtain ⟨xs, hx, rfl⟩ := hc
    simp only [pureOp] at hv
    obtain ⟨y0, rest, y, h1, h2, q⟩ := fold_sim (P := P) r hx min_run hv w
    refine ⟨y, ?_, q⟩
    simp only [Go.builtin, Builtin.min_, h1, Sem.run_bind, h2, Result.andThen_ok, Sem.run_pure]
  · cases hc

theorem not_pure {op : Op} {c : Cls} (h : op.cls = .pure) (h' : op.cls = c) (hc : c ≠ .pure) : False := hc (h'.symm.trans h)

theorem pure_sim (r : EnvRel ρ e a.tmps) {g : Go.Op} {op : Op} (hc : cOp P g = some op) (hk : op.cls = .pure) {v : AV} (hv : pureOp e op = some v) (w : World) : GivesOp P ρ a g w v := by
  cases g
  case move x =>
    simp only [cOp, Option.map_eq_some_iff] at hc
    obtain ⟨x', hx, rfl⟩ := hc
    exact fun _ _ _ _ _ => ⟨_, rfl, ev_sim r hx hv⟩
  case assign x =>
    simp only [cOp, Option.map_eq_some_iff] at hc
    obtain ⟨x', hx, rfl⟩ := hc
    exact fun _ _ _ _ _ => ⟨_, rfl, ev_sim r hx hv⟩
  case pick => exact sim_pick r hc hv w
  case build => exact sim_build r hc hv w
  case nilCheck => exact sim_nilck r hc hv w
  case binOp => exact sim_bin r hc hv w
  case unOp => exact sim_un r hc hv w
  case convert => exact sim_conv r hc hk hv w
  case makeFunc => exact sim_fn r hc hv w
  case slice => exact sim_slice r hc hv w
  case fieldAddr => exact sim_fld r hc hv w
  case field => exact sim_getf r hc hv w
  case indexAddr => exact sim_idxa r hc hv w
  case index => exact sim_idx r hc hv w
  case extract => exact sim_ext r hc hv w
  case call c =>
    obtain ⟨callee, args, ts⟩ := c
    cases callee with
    | builtin b => exact sim_builtin r hc hk hv w
    | invoke => cases hc
    | value f =>
      exfalso
      cases f <;> simp only [cOp] at hc
      case func => simp only [Option.map_eq_some_iff] at hc; obtain ⟨_, _, rfl⟩ := hc; cases hk
      all_goals
        split at hc
        · cases hc; cases hk
        · cases hc
  case makeMap t q => cases q with
    | none => cases hc; cases hk
    | some => cases hc
  all_goals first
    | (cases hc; done)
    | (exfalso; simp only [cOp, Option.map_eq_some_iff] at hc; obtain ⟨_, _, rfl⟩ := hc; cases hk; done)
    | (exfalso; simp only [cOp] at hc; (repeat' (split at hc)) <;> first | (cases hc; done) | (cases hc; cases hk; done) | (simp only [Option.map_eq_some_iff] at hc; obtain ⟨_, _, rfl⟩ := hc; cases hk; done))

end
end Go.AM
