/- Every operation that touches no memory does what the abstract machine does. -/
import Derived.Test.YtfniiaghlkacaaaGreatAm5
namespace Go.AM
open Go
set_option linter.unusedSimpArgs false

section
variable {P : Program} {ρ : Ren} {e : Env} {a : Act}

/-- What an operation comes to that leaves the world as it is. -/
def Gives (P : Program) (ρ : Ren) (a : Act) (o : Oper) (w : World) (v : AV) : Prop := ∃ x, (execOp a.eval o).run P w = .ok (.value x) w ∧ VRel ρ v x

theorem asIntOf_run {k : IntKind} {n : Int} (w : World) : (Go.asIntOf (.int k n)).run P w = .ok (k, n) w := rfl

theorem bound_run {x : Value} {k : IntKind} {i : Int} {y : Nat} {c : BoundsCode} (hx : x = .int k i) (h0 : 0 ≤ i) (h1 : i ≤ (y : Int)) (w : World) : (Instr.sliceBound x y c).run P w = .ok i.toNat w := by
  subst hx
  simp [Instr.sliceBound, Go.asIntOf, h0, h1]

theorem bound_sim (r : EnvRel ρ e a.tmps) {d y : Nat} {o : Option Operand} {x : Option X} {n : Nat} (hx : cXo o = some x) (h : bound e d y x = some n) :
    (o = none ∧ x = none ∧ n = d) ∨ (∃ p q k i, o = some p ∧ x = some q ∧ a.eval p = .int k i ∧ 0 ≤ i ∧ i ≤ (y : Int) ∧ n = i.toNat) := by
  cases o with
  | none =>
    cases hx
    simp [bound] at h
    exact .inl ⟨rfl, rfl, h.symm⟩
  | some p =>
    simp only [cXo, Option.map_eq_some_iff] at hx
    obtain ⟨q, hq, rfl⟩ := hx
    simp only [bound] at h
    split at h
    · rename_i k i hv
      split at h
      · rename_i hb
        cases h
        exact .inr ⟨p, q, k, i, rfl, rfl, ev_sim r hq hv, hb.1, hb.2, rfl⟩
      · cases h
    · cases h

theorem sliceBounds_run {isSlice : Bool} {len cap : Nat} {lo hi mx : Option Value} {l h m : Nat} (w : World)
    (hm : (mx = none ∧ m = cap) ∨ ∃ k i, mx = some (.int k i) ∧ 0 ≤ i ∧ i ≤ (cap : Int) ∧ m = i.toNat)
    (hh : (hi = none ∧ mx = none ∧ h = len) ∨ ∃ k i, hi = some (.int k i) ∧ 0 ≤ i ∧ i ≤ (m : Int) ∧ h = i.toNat)
    (hl : (lo = none ∧ l = 0) ∨ ∃ k i, lo = some (.int k i) ∧ 0 ≤ i ∧ i ≤ (h : Int) ∧ l = i.toNat) :
    (Instr.sliceBounds isSlice len cap lo hi mx).run P w = .ok (l, h, m) w := by
  unfold Instr.sliceBounds
  rcases hm with ⟨rfl, rfl⟩ | ⟨k1, i1, rfl, a1, b1, rfl⟩ <;> rcases hh with ⟨rfl, hn, rfl⟩ | ⟨k2, i2, rfl, a2, b2, rfl⟩ <;> rcases hl with ⟨rfl, rfl⟩ | ⟨k3, i3, rfl, a3, b3, rfl⟩
  all_goals first
    | (cases hn; done)
    | (simp only [Sem.run_bind, Sem.run_pure, Result.andThen_ok, bound_run rfl, *, Option.isSome_none, Option.isSome_some, if_true, if_false, Bool.false_eq_true]; done)
    | (cases isSlice <;> simp only [Sem.run_bind, Sem.run_pure, Result.andThen_ok, bound_run rfl, *, Option.isSome_none, Option.isSome_some, if_true, if_false, Bool.false_eq_true]; done)

theorem slc_sim (r : EnvRel ρ e a.tmps) {t : TypeId} {sh : Sh} {u v : AV} {x : Value} {lo hi mx : Option Operand} {lo' hi' mx' : Option X}
    (hsh : match sh with | .str => P.underlying t = some .string | .sl n => ∃ el, P.underlying t = some (.slice el) ∧ size? P el = some n | .arr k n => ∃ el, P.underlying t = some (.array k el) ∧ size? P el = some n)
    (hlo : cXo lo = some lo') (hhi : cXo hi = some hi') (hmx : cXo mx = some mx') (hx : VRel ρ u x) (h : slc e sh u lo' hi' mx' = some v) (w : World) :
    ∃ y, (Instr.sliceAt t x (lo.map a.eval) (hi.map a.eval) (mx.map a.eval)).run P w = .ok y w ∧ VRel ρ v y := by
  unfold slc at h
  split at h
  · -- a string
    rename_i s
    split at h
    · cases h
    rename_i hmn
    have hmn : mx' = none := by simpa using hmn
    subst hmn
    cases mx with
    | some => simp [cXo] at hmx
    | none =>
    split at h
    case h_2 => cases h
    rename_i hh hb
    split at h
    case h_2 => cases h
    rename_i l hl
    cases h
    cases hx
    have b1 := bound_sim r hhi hb
    have b2 := bound_sim r hlo hl
    refine ⟨.string ⟨((s.take hh).drop l).toArray⟩, ?_, rfl⟩
    have : (Instr.sliceBounds false s.length s.length (lo.map a.eval) (hi.map a.eval) none).run P w = .ok (l, hh, s.length) w := by
      apply sliceBounds_run
      · exact .inl ⟨rfl, rfl⟩
      · rcases b1 with ⟨rfl, _, rfl⟩ | ⟨p, q, k, i, rfl, _, e1, e2, e3, rfl⟩
        · exact .inl ⟨rfl, rfl, rfl⟩
        · exact .inr ⟨k, i, by simp [e1], e2, e3, rfl⟩
      · rcases b2 with ⟨rfl, _, rfl⟩ | ⟨p, q, k, i, rfl, _, e1, e2, e3, rfl⟩
        · exact .inl ⟨rfl, rfl⟩
        · exact .inr ⟨k, i, by simp [e1], e2, e3, rfl⟩
    simp only [Instr.sliceAt, Sem.run_bind, run_underlying hsh, Result.andThen_ok, Instr.slice, size_mk, Option.map_none, Option.isSome_none, Bool.false_eq_true, if_false, this, Sem.run_pure, pure_bind]
    congr 2
    apply ByteArray.ext
    simp [List.extract_eq_take_drop, List.drop_take]
  · -- a slice
    rename_i sz ad len cap ex z
    obtain ⟨el, hu, hsz⟩ := hsh
    split at h
    · cases h
    rename_i hz
    split at h
    · cases h
    rename_i hmh
    split at h
    case h_2 => cases h
    rename_i m hm
    split at h
    case h_2 => cases h
    rename_i hh hb
    split at h
    case h_2 => cases h
    rename_i l hl
    cases h
    have b0 := bound_sim r hmx hm
    have b1 := bound_sim r hhi hb
    have b2 := bound_sim r hlo hl
    have hlb : l ≤ hh ∧ hh ≤ m ∨ (hi = none ∧ hh = len ∧ l ≤ hh) := by
      rcases b1 with ⟨rfl, _, rfl⟩ | ⟨p, q, k, i, rfl, _, e1, e2, e3, rfl⟩ <;> rcases b2 with ⟨rfl, _, rfl⟩ | ⟨p', q', k', i', rfl, _, e1', e2', e3', rfl⟩
      · exact .inr ⟨rfl, rfl, by omega⟩
      · exact .inr ⟨rfl, rfl, by omega⟩
      · exact .inl ⟨by omega, by omega⟩
      · exact .inl ⟨by omega, by omega⟩
    have fin : ∀ (ca : Option Addr) (c' : Nat), len ≤ cap → cap ≤ c' → x = .slice ca len c' →
        ∃ m', (Instr.sliceAt t x (lo.map a.eval) (hi.map a.eval) (mx.map a.eval)).run P w = .ok (.slice (if m' = l then ca else ca.map (·.add (l * sz))) (hh - l) (m' - l)) w ∧ m ≤ m' ∧ (mx = none → m' = c' ∧ m = cap) ∧ (mx ≠ none → m' = m ∧ mx' ≠ none) ∧ hh ≤ m := by
      intro ca c' hlc hcc hxe
      subst hxe
      have key : ∃ m', (Instr.sliceBounds true len c' (lo.map a.eval) (hi.map a.eval) (mx.map a.eval)).run P w = .ok (l, hh, m') w ∧ m ≤ m' ∧ (mx = none → m' = c' ∧ m = cap) ∧ (mx ≠ none → m' = m ∧ mx' ≠ none) ∧ hh ≤ m := by
        rcases b0 with ⟨rfl, rfl, rfl⟩ | ⟨p0, q0, k0, i0, rfl, rfl, e01, e02, e03, rfl⟩
        · refine ⟨c', ?_, hcc, fun _ => ⟨rfl, rfl⟩, fun h => absurd rfl h, ?_⟩
          · apply sliceBounds_run
            · exact .inl ⟨rfl, rfl⟩
            · rcases b1 with ⟨rfl, _, rfl⟩ | ⟨p, q, k, i, rfl, _, e1, e2, e3, rfl⟩
              · exact .inl ⟨rfl, rfl, rfl⟩
              · exact .inr ⟨k, i, by simp [e1], e2, by omega, rfl⟩
            · rcases b2 with ⟨rfl, _, rfl⟩ | ⟨p, q, k, i, rfl, _, e1, e2, e3, rfl⟩
              · exact .inl ⟨rfl, rfl⟩
              · exact .inr ⟨k, i, by simp [e1], e2, e3, rfl⟩
          · rcases b1 with ⟨rfl, _, rfl⟩ | ⟨p, q, k, i, rfl, _, e1, e2, e3, rfl⟩
            · exact hlc
            · omega
        · refine ⟨i0.toNat, ?_, Nat.le_refl _, fun h => by simp at h, fun _ => ⟨rfl, by simp⟩, ?_⟩
          · apply sliceBounds_run
            · exact .inr ⟨k0, i0, by simp [e01], e02, by omega, rfl⟩
            · rcases b1 with ⟨rfl, rfl, rfl⟩ | ⟨p, q, k, i, rfl, _, e1, e2, e3, rfl⟩
              · simp at hmh
              · exact .inr ⟨k, i, by simp [e1], e2, by omega, rfl⟩
            · rcases b2 with ⟨rfl, _, rfl⟩ | ⟨p, q, k, i, rfl, _, e1, e2, e3, rfl⟩
              · exact .inl ⟨rfl, rfl⟩
              · exact .inr ⟨k, i, by simp [e1], e2, e3, rfl⟩
          · rcases b1 with ⟨rfl, rfl, rfl⟩ | ⟨p, q, k, i, rfl, _, e1, e2, e3, rfl⟩
            · simp at hmh
            · omega
      obtain ⟨m', hr, rest⟩ := key
      refine ⟨m', ?_, rest⟩
      simp only [Instr.sliceAt, Sem.run_bind, run_underlying hu, Result.andThen_ok, Instr.slice, hr, size_run hsz, Sem.run_pure]
    rcases ad with _ | ⟨i, o⟩
    · obtain ⟨rfl, rfl, rfl, rfl⟩ := hx
      obtain ⟨m', hr, h1, h2, h3, h4⟩ := fin none 0 (Nat.le_refl _) (Nat.le_refl _) rfl
      have hm0 : m = 0 ∧ m' = 0 := by
        rcases b0 with ⟨rfl, rfl, rfl⟩ | ⟨p0, q0, k0, i0, rfl, rfl, e01, e02, e03, rfl⟩
        · have := h2 rfl; omega
        · have := h3 (by simp); omega
      obtain ⟨rfl, rfl⟩ := hm0
      have hh0 : hh = 0 := by omega
      have hl0 : l = 0 := by omega
      subst hh0; subst hl0
      exact ⟨_, hr, by simp [VRel, SRel]⟩
    · obtain ⟨L, o', c', hρ, rfl, hlc, hcc, hex, hof⟩ := hx
      obtain ⟨m', hr, h1, h2, h3, h4⟩ := fin _ c' hlc hcc rfl
      refine ⟨_, hr, ?_⟩
      have hz' : z = sz := by simpa using hz
      subst hz'
      have hl1 : l ≤ hh := by omega
      have hmc : m' ≤ c' := by
        rcases b0 with ⟨rfl, rfl, rfl⟩ | ⟨p0, q0, k0, i0, rfl, rfl, e01, e02, e03, rfl⟩
        · have := h2 rfl; omega
        · have := h3 (by simp); omega
      simp only [Option.map_some, VRel, SRel]
      by_cases hml : m' = l
      · rw [if_pos hml]
        exact ⟨L, o', m' - l, hρ, rfl, by omega, by omega, fun _ => by omega, .inl (by omega)⟩
      · rw [if_neg hml, add_none]
        have hof' : o' = L.s + o ∧ (ex = true ∨ o' + c' * z ≤ L.n) := by
          rcases hof with h | h
          · omega
          · exact h
        refine ⟨L, o' + l * z, m' - l, hρ, rfl, by omega, by omega, fun hE => ?_, .inr ⟨by omega, ?_⟩⟩
        · simp only [Bool.or_eq_true] at hE
          by_cases hmx0 : mx = none
          · subst hmx0
            simp [cXo] at hmx
            subst hmx
            have e1 := h2 rfl
            have := hex (by simpa using hE)
            omega
          · have := h3 hmx0
            omega
        · rcases hof'.2 with h | h
          · exact .inl (by simp [h])
          · have : l * z + (m' - l) * z ≤ c' * z := by rw [← Nat.add_mul]; exact Nat.mul_le_mul_right _ (by omega)
            exact .inr (by omega)
  · -- an array's place
    rename_i n sz i o
    obtain ⟨el, hu, hsz⟩ := hsh
    split at h
    · cases h
    rename_i hmn
    have hmn : mx' = none := by simpa using hmn
    subst hmn
    cases mx with
    | some => simp [cXo] at hmx
    | none =>
    split at h
    case h_2 => cases h
    rename_i hh hb
    split at h
    case h_2 => cases h
    rename_i l hl
    cases h
    obtain ⟨L, hρ, rfl⟩ := hx
    have b1 := bound_sim r hhi hb
    have b2 := bound_sim r hlo hl
    have hb : (Instr.sliceBounds false n n (lo.map a.eval) (hi.map a.eval) none).run P w = .ok (l, hh, n) w := by
      apply sliceBounds_run
      · exact .inl ⟨rfl, rfl⟩
      · rcases b1 with ⟨rfl, _, rfl⟩ | ⟨p, q, k, i, rfl, _, e1, e2, e3, rfl⟩
        · exact .inl ⟨rfl, rfl, rfl⟩
        · exact .inr ⟨k, i, by simp [e1], e2, e3, rfl⟩
      · rcases b2 with ⟨rfl, _, rfl⟩ | ⟨p, q, k, i, rfl, _, e1, e2, e3, rfl⟩
        · exact .inl ⟨rfl, rfl⟩
        · exact .inr ⟨k, i, by simp [e1], e2, e3, rfl⟩
    have hbd : l ≤ hh ∧ hh ≤ n := by
      rcases b1 with ⟨rfl, _, rfl⟩ | ⟨p, q, k, i, rfl, _, e1, e2, e3, rfl⟩ <;> rcases b2 with ⟨rfl, _, rfl⟩ | ⟨p', q', k', i', rfl, _, e1', e2', e3', rfl⟩ <;> omega
    have hrun : (Instr.sliceAt t (.pointer (some ⟨L.b, L.s + o, none⟩)) (lo.map a.eval) (hi.map a.eval) ((none : Option Operand).map a.eval)).run P w =
        .ok (.slice (some (if n = l then ⟨L.b, L.s + o, none⟩ else (⟨L.b, L.s + o, none⟩ : Addr).add (l * sz))) (hh - l) (n - l)) w := by
      simp only [Instr.sliceAt, Sem.run_bind, run_underlying hu, Result.andThen_ok, Instr.sureAddr, Sem.run_pure, Option.map_none, hb, size_run hsz]
    refine ⟨_, hrun, ?_⟩
    by_cases hnl : n = l
    · rw [if_pos hnl]
      exact ⟨L, _, n - l, hρ, rfl, by omega, by omega, fun _ => rfl, .inl (by omega)⟩
    · rw [if_neg hnl, add_none]
      exact ⟨L, _, n - l, hρ, rfl, by omega, by omega, fun _ => rfl, .inr ⟨by omega, .inl rfl⟩⟩
  · cases h

end
end Go.AM
