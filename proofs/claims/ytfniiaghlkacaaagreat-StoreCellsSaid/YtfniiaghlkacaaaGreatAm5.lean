/- What touches no memory. -/
import Derived.Test.YtfniiaghlkacaaaGreatAm4
namespace Go.AM
open Go
set_option linter.unusedSimpArgs false

section
variable {P : Program} {ρ : Ren} {e : Env} {a : Act}

theorem VRel.s_inv {v : SV} {x : Value} (h : VRel ρ (.s v) x) : SRel ρ v x := h

/-- Values of a type, by their cells, in whatever depth. -/
theorem eqk_run {t : TypeId} {g : Bool} {ks : List K} {u v : AV} {x y : Value} {r : Bool} (hg : agg? P t = some g) (hk : kinds P 12 t = some ks)
    (hx : VRel ρ u x) (hy : VRel ρ v y) (h : eqk g ks u v = some r) (D : Nat) (w : World) : (Op.equalIn (D + 12) t x y).run P w = .ok r w := by
  obtain ⟨_, _, _, q⟩ := eq_run (ρ := ρ) 12 t ks hk
  cases u with
  | tup => simp [eqk] at h
  | agg cs => cases v with
    | agg ds =>
      simp only [eqk] at h
      split at h
      · rename_i hgt; subst hgt
        obtain ⟨xs, rfl, hx⟩ := hx
        obtain ⟨ys, rfl, hy⟩ := hy
        have := q cs ds xs.toList ys.toList r D w hx hy h
        simpa only [mkV, hg, if_true, Array.toArray_toList] using this
      · cases h
    | _ => simp [eqk] at h
  | s u => cases v with
    | s v =>
      simp only [eqk] at h
      split at h
      · cases h
      · rename_i hgt
        have hgt : g = false := by simpa using hgt
        subst hgt
        have := q [u] [v] [x] [y] r D w (.one hx) (.one hy) h
        simpa only [mkV, hg, Option.some.injEq, Bool.false_eq_true, if_false, List.headD_cons] using this
    | _ => simp [eqk] at h

theorem eql_bin {t : TypeId} {x y : Value} {r : Bool} {op : BinOp} (ho : op = .eql ∨ op = .neq) {w : World} (h : (Op.equal t x y).run P w = .ok r w) (hn : ¬ (∃ k n, x = .int k n)) (hs : ¬ (∃ s, x = .string s))
    (hf : ¬ ∃ k n, x = .float k n) (hc : ¬ ∃ k n m, x = .complex k n m) :
    (Go.binOp op t x y).run P w = .ok (.bool (r != (isNeq op))) w := by
  rcases ho with rfl | rfl
  · have : Go.binOp .eql t x y = (do pure (.bool (← Op.equal t x y)) : Sem Value) := by
      cases x <;> first | rfl | (exfalso; simp at hn hs hf hc; done)
    rw [this]
    simp only [Sem.run_bind, h, Result.andThen_ok, Sem.run_pure]
    cases r <;> rfl
  · have : Go.binOp .neq t x y = (do pure (.bool (!(← Op.equal t x y))) : Sem Value) := by
      cases x <;> first | rfl | (exfalso; simp at hn hs hf hc; done)
    rw [this]
    simp only [Sem.run_bind, h, Result.andThen_ok, Sem.run_pure]
    cases r <;> rfl

theorem guard_plain {op : BinOp} {t : TypeId} {X Y : Operand} {x y : Value} (hi : x ≠ .nilIface) (ha : ∀ c, x ≠ .agg c) (w : World) : (eqGuard op t X Y x y).run P w = .ok () w := by
  unfold eqGuard
  cases x <;> first | (exact absurd rfl hi) | (exact absurd rfl (ha _)) | (cases op <;> rfl)

theorem eq_ptr {t d : TypeId} (hd : P.underlying t = some (.pointer d)) (b : Option Addr) (D : Nat) (w : World) : (Op.equalIn (D + 1) t (.pointer none) (.pointer b)).run P w = .ok b.isNone w := by
  simp [Op.equalIn, run_underlying hd]
theorem eq_ptr' {t d : TypeId} (hd : P.underlying t = some (.pointer d)) (b : Addr) (D : Nat) (w : World) : (Op.equalIn (D + 1) t (.pointer (some b)) (.pointer none)).run P w = .ok false w := by
  simp [Op.equalIn, run_underlying hd]
theorem eq_sl {t d : TypeId} (hd : P.underlying t = some (.slice d)) (b : Option Addr) (n c D : Nat) (w : World) : (Op.equalIn (D + 1) t (.slice none 0 0) (.slice b n c)).run P w = .ok b.isNone w := by
  simp [Op.equalIn, run_underlying hd]
theorem eq_sl' {t d : TypeId} (hd : P.underlying t = some (.slice d)) (b : Addr) (n c D : Nat) (w : World) : (Op.equalIn (D + 1) t (.slice (some b) n c) (.slice none 0 0)).run P w = .ok false w := by
  simp [Op.equalIn, run_underlying hd]
theorem eq_map {t d k : TypeId} (hd : P.underlying t = some (.map d k)) (b : Option Nat) (D : Nat) (w : World) : (Op.equalIn (D + 1) t (.map none) (.map b)).run P w = .ok b.isNone w := by
  simp [Op.equalIn, run_underlying hd]
theorem eq_map' {t d k : TypeId} (hd : P.underlying t = some (.map d k)) (b : Nat) (D : Nat) (w : World) : (Op.equalIn (D + 1) t (.map (some b)) (.map none)).run P w = .ok false w := by
  simp [Op.equalIn, run_underlying hd]
theorem eq_fn {t : TypeId} {d k : Array TypeId} {v : Bool} (hd : P.underlying t = some (.func d k v)) (D : Nat) (w : World) : (Op.equalIn (D + 1) t .nilFunc .nilFunc).run P w = .ok true w := by
  simp [Op.equalIn, run_underlying hd]
theorem eq_fn1 {t : TypeId} {d k : Array TypeId} {v : Bool} (hd : P.underlying t = some (.func d k v)) (f : Go.Fn) (x y : Array Value) (D : Nat) (w : World) : (Op.equalIn (D + 1) t .nilFunc (.func f x y)).run P w = .ok false w := by
  simp [Op.equalIn, run_underlying hd]
theorem eq_fn2 {t : TypeId} {d k : Array TypeId} {v : Bool} (hd : P.underlying t = some (.func d k v)) (f : Go.Fn) (x y : Array Value) (D : Nat) (w : World) : (Op.equalIn (D + 1) t (.func f x y) .nilFunc).run P w = .ok false w := by
  simp [Op.equalIn, run_underlying hd]

/-- The types that go with what is compared. -/
def QFits (P : Program) (t : TypeId) : Q → Prop
  | .ptr => ∃ d, P.underlying t = some (.pointer d)
  | .sl => ∃ d, P.underlying t = some (.slice d)
  | .map => ∃ d k, P.underlying t = some (.map d k)
  | .fn => ∃ d k b, P.underlying t = some (.func d k b)
  | .k g ks => agg? P t = some g ∧ kinds P 12 t = some ks ∧ (g = true → P.eqGuardType P.depth t = false) ∧ (g = false → P.underlying t = some .bool)

theorem eqv_sim {t : TypeId} {q : Q} (hq : QFits P t q) {u v : AV} {x y : Value} {r : Bool} (hx : VRel ρ u x) (hy : VRel ρ v y) (h : eqv q u v = some r) {op : BinOp} (ho : op = .eql ∨ op = .neq) (X Y : Operand) (w : World) :
    (do eqGuard op t X Y x y; Go.binOp op t x y : Sem Value).run P w = .ok (.bool (r != (isNeq op))) w := by
  have go : ∀ {x y : Value}, x ≠ .nilIface → (∀ c, x ≠ .agg c) → (¬ (∃ k n, x = .int k n)) → (¬ (∃ s, x = .string s)) → (¬ ∃ k n, x = .float k n) → (¬ ∃ k n m, x = .complex k n m) → (Op.equal t x y).run P w = .ok r w →
      (do eqGuard op t X Y x y; Go.binOp op t x y : Sem Value).run P w = .ok (.bool (r != (isNeq op))) w := by
    intro x y h1 h2 h3 h4 h5 h6 h
    simp only [Sem.run_bind, guard_plain h1 h2, Result.andThen_ok]
    exact eql_bin ho h h3 h4 h5 h6
  unfold eqv at h
  split at h
  · rename_i b
    obtain ⟨d, hd⟩ := hq
    cases h
    cases hx
    cases b with
    | none => cases hy; exact go (by simp) (by simp) (by simp) (by simp) (by simp) (by simp) (eq_ptr hd none 9999 w)
    | some b => obtain ⟨L, _, rfl⟩ := hy; exact go (by simp) (by simp) (by simp) (by simp) (by simp) (by simp) (eq_ptr hd _ 9999 w)
  · obtain ⟨d, hd⟩ := hq
    cases h; cases hy
    obtain ⟨L, _, rfl⟩ := hx
    exact go (by simp) (by simp) (by simp) (by simp) (by simp) (by simp) (eq_ptr' hd _ 9999 w)
  · rename_i b _ _ _ _
    obtain ⟨d, hd⟩ := hq
    cases h
    obtain ⟨_, _, _, rfl⟩ := hx
    rcases b with _ | ⟨i, o⟩
    · obtain ⟨_, _, _, rfl⟩ := hy; exact go (by simp) (by simp) (by simp) (by simp) (by simp) (by simp) (eq_sl hd none 0 0 9999 w)
    · obtain ⟨_, _, _, _, rfl, _⟩ := hy; exact go (by simp) (by simp) (by simp) (by simp) (by simp) (by simp) (eq_sl hd _ _ _ 9999 w)
  · obtain ⟨d, hd⟩ := hq
    cases h
    obtain ⟨_, _, _, rfl⟩ := hy
    rename_i i _ _ _ _ _ _ _ _ _ _ _
    obtain ⟨i, o⟩ := i
    obtain ⟨_, _, _, _, rfl, _⟩ := hx
    exact go (by simp) (by simp) (by simp) (by simp) (by simp) (by simp) (eq_sl' hd _ _ _ 9999 w)
  · rename_i b
    obtain ⟨d, k, hd⟩ := hq
    cases h
    cases hx
    cases b with
    | none => cases hy; exact go (by simp) (by simp) (by simp) (by simp) (by simp) (by simp) (eq_map hd none 9999 w)
    | some b => obtain ⟨L, _, rfl⟩ := hy; exact go (by simp) (by simp) (by simp) (by simp) (by simp) (by simp) (eq_map hd _ 9999 w)
  · obtain ⟨d, k, hd⟩ := hq
    cases h; cases hy
    obtain ⟨L, _, rfl⟩ := hx
    exact go (by simp) (by simp) (by simp) (by simp) (by simp) (by simp) (eq_map' hd _ 9999 w)
  · obtain ⟨d, k, b, hd⟩ := hq
    cases h; cases hx; cases hy
    exact go (by simp) (by simp) (by simp) (by simp) (by simp) (by simp) (eq_fn hd 9999 w)
  · obtain ⟨d, k, b, hd⟩ := hq
    cases h; cases hy
    obtain ⟨_, _, rfl, _⟩ := hx
    exact go (by simp) (by simp) (by simp) (by simp) (by simp) (by simp) (eq_fn2 hd _ _ _ 9999 w)
  · obtain ⟨d, k, b, hd⟩ := hq
    cases h; cases hx
    obtain ⟨_, _, rfl, _⟩ := hy
    exact go (by simp) (by simp) (by simp) (by simp) (by simp) (by simp) (eq_fn1 hd _ _ _ 9999 w)
  · rename_i g ks
    obtain ⟨hg, hk, h1, h2⟩ := hq
    have he := eqk_run hg hk hx hy h 9988 w
    cases g with
    | true =>
      cases u with
      | agg cs => cases v with
        | agg ds =>
          obtain ⟨xs, rfl, _⟩ := hx
          obtain ⟨ys, rfl, _⟩ := hy
          simp only [Sem.run_bind, run_eqGuard_agg w op t X Y xs ys (h1 rfl), Result.andThen_ok]
          rcases ho with rfl | rfl
          · rw [run_eql_struct, he]; cases r <;> rfl
          · rw [run_neq_struct, he]; cases r <;> rfl
        | _ => simp [eqk] at h
      | s u => cases v <;> simp [eqk] at h
      | tup => simp [eqk] at h
    | false =>
      have hb := h2 rfl
      cases u with
      | agg cs => cases v <;> simp [eqk] at h
      | tup => simp [eqk] at h
      | s u => cases v with
        | s v =>
          have hks : ks = [.b] := by
            have := hk
            simp only [kinds, hb] at this
            split at this
            · split at this
              · simpa using this.symm
              · cases this
            · cases this
          subst hks
          simp only [eqk, Bool.false_eq_true, if_false, eqcs] at h
          cases hc : eqc .b u v with
          | none => simp [hc] at h
          | some z =>
            obtain ⟨p, q, rfl, rfl, rfl⟩ := eqc_b hc
            cases hx; cases hy
            exact go (by simp) (by simp) (by simp) (by simp) (by simp) (by simp) he
        | _ => simp [eqk] at h
  · cases h

end
end Go.AM
