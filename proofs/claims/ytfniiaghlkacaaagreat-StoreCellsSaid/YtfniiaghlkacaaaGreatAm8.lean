/- Every operation that touches no memory. -/
import Derived.Test.YtfniiaghlkacaaaGreatAm7
namespace Go.AM
open Go
set_option linter.unusedSimpArgs false

section
variable {P : Program} {ρ : Ren} {e : Env} {a : Act}

/-- What the code of an operation comes to. -/
def GivesOp (P : Program) (ρ : Ren) (a : Act) (g : Go.Op) (w : World) (v : AV) : Prop :=
  ∀ (dst : Option Tmp) (ty : TypeId) (pos : String) (aft : Array Edge) (gd : Option (Nat × Bool)), ∃ x, (execOp a.eval ⟨dst, g, ty, pos, aft, gd⟩).run P w = .ok (.value x) w ∧ VRel ρ v x

theorem sim_pick (r : EnvRel ρ e a.tmps) {c x y : Operand} {op : Op} (hc : cOp P (.pick c x y) = some op) {v : AV} (hv : pureOp e op = some v) (w : World) : GivesOp P ρ a (.pick c x y) w v := by
  simp only [cOp] at hc
  split at hc
  case h_2 => cases hc
  rename_i c' x' y' h1 h2 h3
  cases hc
  simp only [pureOp] at hv
  split at hv
  case h_2 => cases hv
  rename_i t ht
  have hb : a.eval c = .bool t := ev_sim r h1 ht
  intro dst ty pos aft gd
  simp only [execOp, Sem.run_bind, hb, Go.asBool, Sem.run_pure, Result.andThen_ok]
  cases t with
  | true => exact ⟨_, rfl, ev_sim r h2 (by simpa using hv)⟩
  | false => exact ⟨_, rfl, ev_sim r h3 (by simpa using hv)⟩

theorem sim_build (r : EnvRel ρ e a.tmps) {t : TypeId} {ps : Array (Nat × Operand)} {op : Op} (hc : cOp P (.build t ps) = some op) {v : AV} (hv : pureOp e op = some v) (w : World) : GivesOp P ρ a (.build t ps) w v := by
  simp only [cOp] at hc
  intro dst ty pos aft gd
  split at hc
  · rename_i z fs hz hu
    split at hc
    case isFalse => cases hc
    rename_i hall
    simp only [Option.map_eq_some_iff] at hc
    obtain ⟨ps', hp, rfl⟩ := hc
    simp only [pureOp, Option.map_eq_some_iff] at hv
    obtain ⟨out, ho, rfl⟩ := hv
    obtain ⟨zx, hzr, hzc, _⟩ := zero_run (ρ := ρ) hz w
    obtain ⟨ys, hy, q⟩ := fill_sim r hp ho hzc
    have hm : (fs.mapM fun (f : Field) => do pure (f.offset, ← sizeOf f.type) : Sem (Array (Nat × Nat))).run P w = .ok (fs.map fun (f : Field) => (f.offset, P.cellsOf f.type)) w := by
      rw [Array.mapM_eq_mapM_toList, Sem.run_map, mapM_run _ (fun f : Field => (f.offset, P.cellsOf f.type)) w fs.toList]
      · simp only [Result.andThen_ok]; congr 1; apply Array.ext'; simp
      · intro f hf
        have := List.all_eq_true.1 hall f hf
        simp only [Sem.run_bind, size_run (size_of_info this), Result.andThen_ok, Sem.run_pure]
    have hpl : (fun (i : Nat) => (fs.map fun (f : Field) => (f.offset, P.cellsOf f.type))[i]?) = (fun (i : Nat) => (fs[i]?).map fun (f : Field) => (f.offset, P.cellsOf f.type)) := by
      funext i; simp
    refine ⟨.agg ys, ?_, ys, rfl, q⟩
    simp only [execOp, Sem.run_bind, Instr.build, hzr, Result.andThen_ok, run_underlying hu, hm]
    rw [hpl]
    simp only [Array.toList_map]
    rw [hy]
    rfl
  · rename_i z n el hz hu
    split at hc
    case h_2 => cases hc
    rename_i k hk
    simp only [Option.map_eq_some_iff] at hc
    obtain ⟨ps', hp, rfl⟩ := hc
    simp only [pureOp, Option.map_eq_some_iff] at hv
    obtain ⟨out, ho, rfl⟩ := hv
    obtain ⟨zx, hzr, hzc, _⟩ := zero_run (ρ := ρ) hz w
    obtain ⟨ys, hy, q⟩ := fill_sim r hp ho hzc
    refine ⟨.agg ys, ?_, ys, rfl, q⟩
    simp only [execOp, Sem.run_bind, Instr.build, hzr, Result.andThen_ok, run_underlying hu, size_run hk, Array.toList_map]
    rw [hy]
    rfl
  · cases hc

theorem sim_nilck (r : EnvRel ρ e a.tmps) {x : Operand} {op : Op} (hc : cOp P (.nilCheck x) = some op) {v : AV} (hv : pureOp e op = some v) (w : World) : GivesOp P ρ a (.nilCheck x) w v := by
  simp only [cOp, Option.map_eq_some_iff] at hc
  obtain ⟨x', hx, rfl⟩ := hc
  simp only [pureOp] at hv
  split at hv
  case h_2 => cases hv
  rename_i b hb
  cases hv
  intro dst ty pos aft gd
  have hr := ev_sim r hx hb
  obtain ⟨L, hL, he⟩ := hr
  refine ⟨a.eval x, ?_, L, hL, he⟩
  simp only [execOp, he]
  rfl

theorem sim_bin (r : EnvRel ρ e a.tmps) {o : BinOp} {t yt : TypeId} {x y : Operand} {op : Op} (hc : cOp P (.binOp o t x y yt) = some op) {v : AV} (hv : pureOp e op = some v) (w : World) : GivesOp P ρ a (.binOp o t x y yt) w v := by
  intro dst ty pos aft gd
  have two : ∀ {x' y' : X}, cX x = some x' → cX y = some y' → pureOp e (.bin o x' y') = some v → ∃ z, (execOp a.eval ⟨dst, .binOp o t x y yt, ty, pos, aft, gd⟩).run P w = .ok (.value z) w ∧ VRel ρ v z := by
    intro x' y' h1 h2 hv
    simp only [pureOp] at hv
    split at hv
    case h_2 => cases hv
    rename_i u1 u2 e1 e2
    obtain ⟨z, hz, q⟩ := bin_sim P (t := t) (X := x) (Y := y) (ev_sim r h1 e1) (ev_sim r h2 e2) hv w
    refine ⟨z, ?_, q⟩
    simp only [execOp]
    rw [Sem.run_bind, hz]
    rfl
  have eq : ∀ {x' y' : X} {q : Q}, (o = .eql ∨ o = .neq) → QFits P t q → cX x = some x' → cX y = some y' → pureOp e (.eqv q (isNeq o) x' y') = some v →
      ∃ z, (execOp a.eval ⟨dst, .binOp o t x y yt, ty, pos, aft, gd⟩).run P w = .ok (.value z) w ∧ VRel ρ v z := by
    intro x' y' q ho hq h1 h2 hv
    simp only [pureOp] at hv
    split at hv
    case h_2 => cases hv
    rename_i u1 u2 e1 e2
    simp only [Option.map_eq_some_iff] at hv
    obtain ⟨b, hb, rfl⟩ := hv
    have hz := eqv_sim hq (ev_sim r h1 e1) (ev_sim r h2 e2) hb ho x y w
    refine ⟨_, ?_, rfl⟩
    simp only [execOp]
    rw [Sem.run_bind, hz]
    rfl
  simp only [cOp] at hc
  split at hc
  · rename_i hu h1 h2; cases hc; exact two h1 h2 hv
  · rename_i hu h1 h2; cases hc; exact two h1 h2 hv
  · rename_i d x' y' _ _ hu h1 h2
    have both : ∀ (ho : o = .eql ∨ o = .neq), cEq P o t d x' y' = some op → ∃ z, (execOp a.eval ⟨dst, .binOp o t x y yt, ty, pos, aft, gd⟩).run P w = .ok (.value z) w ∧ VRel ρ v z := by
      intro ho hc
      unfold cEq at hc
      split at hc
      · cases hc; exact eq (q := .ptr) ho ⟨_, ‹P.underlying t = some _›⟩ h1 h2 hv
      · cases hc; exact eq (q := .sl) ho ⟨_, ‹P.underlying t = some _›⟩ h1 h2 hv
      · cases hc; exact eq (q := .map) ho ⟨_, _, ‹P.underlying t = some _›⟩ h1 h2 hv
      · cases hc; exact eq (q := .fn) ho ⟨_, _, _, ‹P.underlying t = some _›⟩ h1 h2 hv
      · split at hc
        case isFalse => cases hc
        rename_i hb
        cases hc
        exact eq (q := .k false [.b]) ho ⟨by simp [agg?, ‹P.underlying t = some _›], by simp [kinds, hb.2, ‹P.underlying t = some _›, hb.1], fun h => by simp at h, fun _ => ‹P.underlying t = some _›⟩ h1 h2 hv
      · split at hc
        case h_2 => cases hc
        rename_i ks hk
        split at hc
        case isFalse => cases hc
        rename_i hg
        cases hc
        exact eq (q := .k true ks) ho ⟨by simp [agg?, ‹P.underlying t = some _›], hk, fun _ => hg, fun h => by simp at h⟩ h1 h2 hv
      · split at hc
        case h_2 => cases hc
        rename_i ks hk
        split at hc
        case isFalse => cases hc
        rename_i hg
        cases hc
        exact eq (q := .k true ks) ho ⟨by simp [agg?, ‹P.underlying t = some _›], hk, fun _ => hg, fun h => by simp at h⟩ h1 h2 hv
      · cases hc
    cases o <;> first
      | exact both (.inl rfl) hc
      | exact both (.inr rfl) hc
      | cases hc
  · cases hc

theorem sim_un (r : EnvRel ρ e a.tmps) {o : UnOp} {t : TypeId} {x : Operand} {op : Op} (hc : cOp P (.unOp o t x) = some op) {v : AV} (hv : pureOp e op = some v) (w : World) : GivesOp P ρ a (.unOp o t x) w v := by
  simp only [cOp, Option.map_eq_some_iff] at hc
  obtain ⟨x', hx, rfl⟩ := hc
  simp only [pureOp] at hv
  split at hv
  case h_2 => cases hv
  rename_i u hu
  intro dst ty pos aft gd
  have hr := ev_sim r hx hu
  unfold un at hv
  split at hv <;> first | (cases hv; done) | skip
  all_goals
    cases hv
    have hr' : a.eval x = _ := hr
    refine ⟨_, ?_, rfl⟩
    simp only [execOp, hr', Op.unary, Op.intArith, Op.intBits]
    rfl

theorem sim_fn (r : EnvRel ρ e a.tmps) {f : Go.Fn} {fs cs : Array Operand} {op : Op} (hc : cOp P (.makeFunc f fs cs) = some op) {v : AV} (hv : pureOp e op = some v) (w : World) : GivesOp P ρ a (.makeFunc f fs cs) w v := by
  cases f <;> simp only [cOp] at hc
  case func f =>
    split at hc
    case h_2 => cases hc
    rename_i l1 l2 h1 h2
    cases hc
    simp only [pureOp] at hv
    split at hv
    case h_2 => cases hv
    rename_i a1 a2 e1 e2
    cases hv
    intro dst ty pos aft gd
    refine ⟨_, rfl, _, _, rfl, ?_, ?_⟩
    · simpa using addrs_sim r h1 e1
    · simpa using addrs_sim r h2 e2
  all_goals cases hc

theorem sim_slice (r : EnvRel ρ e a.tmps) {t : TypeId} {x : Operand} {lo hi mx : Option Operand} {op : Op} (hc : cOp P (.slice t x lo hi mx) = some op) {v : AV} (hv : pureOp e op = some v) (w : World) : GivesOp P ρ a (.slice t x lo hi mx) w v := by
  intro dst ty pos aft gd
  have main : ∀ {sh : Sh} {x' : X} {lo' hi' mx' : Option X}, (match sh with | .str => P.underlying t = some .string | .sl n => ∃ el, P.underlying t = some (.slice el) ∧ size? P el = some n | .arr k n => ∃ el, P.underlying t = some (.array k el) ∧ size? P el = some n) →
      cX x = some x' → cXo lo = some lo' → cXo hi = some hi' → cXo mx = some mx' → pureOp e (.slc sh x' lo' hi' mx') = some v →
      ∃ z, (execOp a.eval ⟨dst, .slice t x lo hi mx, ty, pos, aft, gd⟩).run P w = .ok (.value z) w ∧ VRel ρ v z := by
    intro sh x' lo' hi' mx' hsh h1 h2 h3 h4 hv
    simp only [pureOp] at hv
    split at hv
    case h_2 => cases hv
    rename_i u hu
    obtain ⟨y, hy, q⟩ := slc_sim r hsh h2 h3 h4 (ev_sim r h1 hu) hv w
    refine ⟨y, ?_, q⟩
    simp only [execOp, Sem.run_bind, hy, Result.andThen_ok, Sem.run_pure]
  simp only [cOp] at hc
  split at hc
  · rename_i hu h1 h2 h3 h4; cases hc; exact main hu h1 h2 h3 h4 hv
  · rename_i hu h1 h2 h3 h4
    simp only [Option.map_eq_some_iff] at hc
    obtain ⟨n, hn, rfl⟩ := hc
    exact main (sh := .sl n) ⟨_, hu, hn⟩ h1 h2 h3 h4 hv
  · rename_i hu h1 h2 h3 h4
    simp only [Option.map_eq_some_iff] at hc
    obtain ⟨n, hn, rfl⟩ := hc
    exact main (sh := .arr _ n) ⟨_, hu, hn⟩ h1 h2 h3 h4 hv
  · cases hc

theorem sim_fld (r : EnvRel ρ e a.tmps) {t : TypeId} {x : Operand} {f : Nat} {op : Op} (hc : cOp P (.fieldAddr t x f) = some op) {v : AV} (hv : pureOp e op = some v) (w : World) : GivesOp P ρ a (.fieldAddr t x f) w v := by
  simp only [cOp] at hc
  split at hc
  case h_2 => cases hc
  rename_i fs x' hu hx
  split at hc
  case h_2 => cases hc
  rename_i fd hf
  split at hc
  case isTrue => cases hc
  rename_i hs
  cases hc
  simp only [pureOp] at hv
  split at hv
  case h_2 => cases hv
  rename_i i o hb
  cases hv
  obtain ⟨L, hL, he⟩ := ev_sim r hx hb
  intro dst ty pos aft gd
  cases hsz : size? P fd.type with
  | none => simp [hsz] at hs
  | some n =>
    have hn : n ≠ 0 := by rintro rfl; simp [hsz] at hs
    refine ⟨.pointer (some ⟨L.b, L.s + (o + fd.offset), none⟩), ?_, L, hL, rfl⟩
    simp only [execOp, Sem.run_bind, Instr.fieldAt, run_underlying hu, Result.andThen_ok, hf, he, Instr.sureAddr, Sem.run_pure, fieldPlace, size_run hsz, hn, if_false, add_none, Sem.run_ite, Nat.add_assoc]

theorem sim_getf (r : EnvRel ρ e a.tmps) {t : TypeId} {x : Operand} {f : Nat} {op : Op} (hc : cOp P (.field t x f) = some op) {v : AV} (hv : pureOp e op = some v) (w : World) : GivesOp P ρ a (.field t x f) w v := by
  simp only [cOp] at hc
  split at hc
  case h_2 => cases hc
  rename_i fs x' hu hx
  split at hc
  case h_2 => cases hc
  rename_i fd hf
  split at hc
  case h_2 => cases hc
  rename_i n g hn hg
  split at hc
  case isFalse => cases hc
  rename_i h1
  cases hc
  simp only [pureOp] at hv
  split at hv
  case h_2 => cases hv
  rename_i cs hb
  obtain ⟨xs, he, hxs⟩ := ev_sim r hx hb
  obtain ⟨y, hy, q⟩ := part_sim hg hn h1 hxs hv w
  intro dst ty pos aft gd
  refine ⟨y, ?_, q⟩
  simp only [execOp, Sem.run_bind, Instr.field, run_underlying hu, Result.andThen_ok, hf, he, Go.asAgg, Sem.run_pure, hy]

theorem sim_idxa (r : EnvRel ρ e a.tmps) {t : TypeId} {x i : Operand} {op : Op} (hc : cOp P (.indexAddr t x i) = some op) {v : AV} (hv : pureOp e op = some v) (w : World) : GivesOp P ρ a (.indexAddr t x i) w v := by
  simp only [cOp] at hc
  intro dst ty pos aft gd
  split at hc
  · rename_i k el x' i' hu hx hi
    simp only [Option.map_eq_some_iff] at hc
    obtain ⟨n, hn, rfl⟩ := hc
    simp only [pureOp] at hv
    split at hv
    · rename_i b o q j h1 h2 h3
      cases h1
      split at hv
      case isFalse => cases hv
      rename_i hb
      cases hv
      obtain ⟨L, hL, he⟩ := ev_sim r hx h2
      have hj : a.eval i = .int q j := ev_sim r hi h3
      refine ⟨.pointer (some ⟨L.b, L.s + (o + j.toNat * n), none⟩), ?_, L, hL, rfl⟩
      simp only [execOp, Sem.run_bind, Instr.indexAt, hj, asIntOf_run, Result.andThen_ok, run_underlying hu, he, Instr.sureAddr, Sem.run_pure]
      by_cases hk : k ≤ 1 <;> simp [hk, hb.1, hb.2, size_run hn, add_none, Nat.add_assoc, run_underlying hu]
    · rename_i h1 _ _; cases h1
    · cases hv
  · rename_i el x' i' hu hx hi
    simp only [Option.map_eq_some_iff] at hc
    obtain ⟨n, hn, rfl⟩ := hc
    simp only [pureOp] at hv
    split at hv
    · rename_i h1 _ _; cases h1
    · rename_i b o len cap ex z q j h1 h2 h3
      cases h1
      split at hv
      case isFalse => cases hv
      rename_i hb
      obtain ⟨rfl, hb0, hb1⟩ := hb
      cases hv
      obtain ⟨L, o', c', hL, he, hlc, hcc, hex, hof⟩ := ev_sim r hx h2
      have hj : a.eval i = .int q j := ev_sim r hi h3
      have ho : o' = L.s + o := by
        rcases hof with h | h
        · omega
        · exact h.1
      refine ⟨.pointer (some ⟨L.b, L.s + (o + j.toNat * z), none⟩), ?_, L, hL, rfl⟩
      simp only [execOp, Sem.run_bind, Instr.indexAt, hj, asIntOf_run, Result.andThen_ok, run_underlying hu, he, Sem.run_pure]
      by_cases hk : len ≤ 1 <;> simp [hk, hb0, hb1, size_run hn, add_none, Nat.add_assoc, run_underlying hu, ho]
    · cases hv
  · cases hc

theorem sim_idx (r : EnvRel ρ e a.tmps) {t : TypeId} {x i : Operand} {op : Op} (hc : cOp P (.index t x i) = some op) {v : AV} (hv : pureOp e op = some v) (w : World) : GivesOp P ρ a (.index t x i) w v := by
  simp only [cOp] at hc
  intro dst ty pos aft gd
  split at hc
  · rename_i x' i' hu hx hi
    cases hc
    simp only [pureOp] at hv
    split at hv
    · rename_i h1 _ _; cases h1
    · rename_i s q j h1 h2 h3
      split at hv
      case isFalse => cases hv
      rename_i hb
      simp only [Option.map_eq_some_iff] at hv
      obtain ⟨b, hb1, rfl⟩ := hv
      have he : a.eval x = .string ⟨s.toArray⟩ := ev_sim r hx h2
      have hj : a.eval i = .int q j := ev_sim r hi h3
      refine ⟨.int .u8 b.toNat, ?_, rfl⟩
      have hget : (⟨s.toArray⟩ : ByteArray)[j.toNat]? = some b := by
        have hlt : j.toNat < s.length := by
          rcases Nat.lt_or_ge j.toNat s.length with q | q
          · exact q
          · rw [List.getElem?_eq_none q] at hb1; cases hb1
        rw [List.getElem?_eq_getElem hlt] at hb1
        have : j.toNat < (⟨s.toArray⟩ : ByteArray).size := by rw [size_mk]; exact hlt
        rw [getElem?_pos (⟨s.toArray⟩ : ByteArray) j.toNat this]
        simp only [Option.some.injEq] at hb1 ⊢
        rw [← hb1]
        rfl
      simp only [execOp, Sem.run_bind, Instr.index, hj, asIntOf_run, Result.andThen_ok, run_underlying hu, he, hb, if_true, hget, Sem.run_pure]
    · cases hv
  · rename_i k el x' i' hu hx hi
    split at hc
    case h_2 => cases hc
    rename_i n g hn hg
    split at hc
    case isFalse => cases hc
    rename_i h1'
    cases hc
    simp only [pureOp] at hv
    split at hv
    · rename_i cs q j h1 h2 h3
      cases h1
      split at hv
      case isFalse => cases hv
      rename_i hb
      obtain ⟨xs, he, hxs⟩ := ev_sim r hx h2
      have hj : a.eval i = .int q j := ev_sim r hi h3
      obtain ⟨y, hy, q'⟩ := part_sim hg hn h1' hxs hv w
      refine ⟨y, ?_, q'⟩
      simp only [execOp, Sem.run_bind, Instr.index, hj, asIntOf_run, Result.andThen_ok, run_underlying hu, he, hb.1, hb.2, and_self, if_true, size_run hn, Sem.run_pure, hy]
    · rename_i h1 _ _; cases h1
    · cases hv
  · cases hc

theorem sim_ext (r : EnvRel ρ e a.tmps) {x : Operand} {i : Nat} {op : Op} (hc : cOp P (.extract x i) = some op) {v : AV} (hv : pureOp e op = some v) (w : World) : GivesOp P ρ a (.extract x i) w v := by
  simp only [cOp, Option.map_eq_some_iff] at hc
  obtain ⟨x', hx, rfl⟩ := hc
  simp only [pureOp] at hv
  intro dst ty pos aft gd
  split at hv
  case h_2 => cases hv
  rename_i vs hb
  obtain ⟨xs, he, hxs⟩ := ev_sim r hx hb
  split at hv
  · rename_i cs hi
    cases hv
    obtain ⟨y, hy, q⟩ := hxs.get i _ hi
    simp only [TRel, if_true] at q
    refine ⟨y, ?_, q⟩
    rw [Array.getElem?_toList] at hy
    simp only [execOp, Sem.run_bind, Instr.extract, he, hy, Sem.run_pure, Result.andThen_ok]
  · rename_i u hi
    cases hv
    obtain ⟨y, hy, q⟩ := hxs.get i _ hi
    simp only [TRel, Bool.false_eq_true, if_false, List.cons.injEq, and_true] at q
    obtain ⟨v', rfl, q⟩ := q
    refine ⟨y, ?_, q⟩
    rw [Array.getElem?_toList] at hy
    simp only [execOp, Sem.run_bind, Instr.extract, he, hy, Sem.run_pure, Result.andThen_ok]
  · cases hv

end
end Go.AM
