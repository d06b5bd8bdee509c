/- Operations that touch no memory, one by one. -/
import Derived.Test.YtfniiaghlkacaaaGreatAm6
namespace Go.AM
open Go
set_option linter.unusedSimpArgs false

section
variable {P : Program} {ρ : Ren} {e : Env} {a : Act}

theorem part_sim {t : TypeId} {g : Bool} {n off : Nat} {cs : List SV} {v : AV} {xs : Array Value} (hg : agg? P t = some g) (hn : size? P t = some n) (h1 : (g || n == 1) = true)
    (hx : All2 (SRel ρ) cs xs.toList) (h : part g cs off n = some v) (w : World) : ∃ y, (Go.part t xs off).run P w = .ok y w ∧ VRel ρ v y := by
  unfold part at h
  split at h
  case isFalse => cases h
  rename_i hl
  have hlen := hx.length
  simp only [Array.length_toList] at hlen
  refine ⟨_, part_run hg hn (by simpa using h1) (by omega) w, ?_⟩
  cases g with
  | true =>
    cases h
    simp only [mkV, hg, if_true]
    exact ⟨_, rfl, by simpa using (hx.drop off).take n⟩
  | false =>
    have : n = 1 := by simpa using h1
    subst this
    simp only [Bool.false_eq_true, if_false, Option.map_eq_some_iff] at h
    obtain ⟨c, hc, rfl⟩ := h
    obtain ⟨y, hy, q⟩ := hx.get off c hc
    simp only [mkV, hg, Option.some.injEq, Bool.false_eq_true, if_false]
    have : (List.take 1 (List.drop off xs.toList)).headD undef = y := by
      have h0 : off < xs.toList.length := by simp; omega
      rw [List.drop_eq_getElem_cons h0]
      simp
      have := List.getElem?_eq_getElem h0
      rw [this] at hy
      simpa using hy
    rw [this]
    exact q

theorem addrs_sim (r : EnvRel ρ e a.tmps) : ∀ {os : List Operand} {xs : List X} {as : List (Nat × Nat)}, cXs os = some xs → addrs e xs = some as → All2 (PRel ρ) as (os.map a.eval)
  | [], xs, as, h, hv => by cases h; cases hv; exact .nil
  | o :: os, xs, as, h, hv => by
    simp only [cXs] at h
    cases h1 : cX o with
    | none => simp [h1] at h
    | some x =>
      cases h2 : cXs os with
      | none => simp [h1, h2] at h
      | some xs' =>
        simp [h1, h2] at h; subst h
        simp only [addrs] at hv
        split at hv
        · rename_i b l e1 e2
          cases hv
          exact .cons (ev_sim r h1 e1) (addrs_sim r h2 e2)
        · cases hv

theorem stepI_none (f : Int → Int → Int) : ∀ (vs : List AV), vs.foldl (stepI f) none = none
  | [] => rfl
  | _ :: vs => by simp only [List.foldl_cons, stepI]; exact stepI_none f vs

theorem foldI_sim {f : Int → Int → Int} {g : Value → Value → Sem Value} (hg : ∀ k x y (w : World), (g (.int k x) (.int k y)).run P w = .ok (.int k (f x y)) w) :
    ∀ (vs : List AV) (xs : List Value) (k : IntKind) (acc : Int) (v : AV), All2 (VRel ρ) vs xs →
      vs.foldl (stepI f) (some (.s (.int k acc))) = some v → ∀ (w : World), ∃ y, (xs.foldlM g (.int k acc)).run P w = .ok y w ∧ VRel ρ v y
  | [], xs, k, acc, v, hx, h, w => by
    cases hx
    simp at h; subst h
    exact ⟨_, rfl, rfl⟩
  | u :: vs, xs, k, acc, v, hx, h, w => by
    cases hx with
    | cons h1 h2 =>
      rename_i x xs
      simp only [List.foldl_cons, stepI] at h
      split at h
      · rename_i k1 a1 k2 b1 e2
        cases e2
        split at h
        · rename_i hk
          subst hk
          cases h1
          obtain ⟨y, hy, q⟩ := foldI_sim hg vs xs k (f acc b1) v h2 h w
          exact ⟨y, by simp [List.foldlM_cons, hg, hy], q⟩
        · rw [stepI_none] at h; cases h
      · rw [stepI_none] at h; cases h

theorem fold_splice : ∀ (vs : List Value) (off i : Nat) (cs : Array Value), off + i + vs.length ≤ cs.size →
    (vs.zipIdx i).foldl (fun cs (p : Value × Nat) => cs.setIfInBounds (off + p.2) p.1) cs = spliceV cs (off + i) vs
  | [], off, i, cs, _ => by simp [spliceV]
  | v :: vs, off, i, cs, h => by
    simp only [List.zipIdx_cons, List.foldl_cons]
    simp only [List.length_cons] at h
    rw [fold_splice vs off (i + 1) _ (by simp; omega)]
    apply Array.ext_getElem?
    intro j
    rw [spliceV_get (by simp; omega), spliceV_get (by simp; omega)]
    simp only [List.length_cons, Array.getElem?_setIfInBounds]
    by_cases h2 : off + i + 1 ≤ j ∧ j < off + i + 1 + vs.length
    · rw [if_pos (by omega), if_pos (by omega), show j - (off + i) = (j - (off + i + 1)) + 1 by omega]
      simp [Nat.add_assoc]
    · rw [if_neg (by omega)]
      by_cases h3 : off + i = j
      · subst h3
        rw [if_pos rfl, if_pos (by omega)]
        simp
      · rw [if_neg h3, if_neg (by omega)]

theorem fill_sim (r : EnvRel ρ e a.tmps) {pl : Nat → Option (Nat × Nat)} : ∀ {ps : List (Nat × Operand)} {ps' : List (Nat × Nat × X)} {cs out : List SV} {xs : Array Value},
    cParts pl ps = some ps' → fill e cs ps' = some out → All2 (SRel ρ) cs xs.toList →
      ∃ ys, Instr.fill pl xs (ps.map fun p => (p.1, a.eval p.2)) = some ys ∧ All2 (SRel ρ) out ys.toList
  | [], ps', cs, out, xs, h, hf, hx => by
    cases h
    simp [fill] at hf; subst hf
    exact ⟨xs, rfl, hx⟩
  | (i, o) :: ps, ps', cs, out, xs, h, hf, hx => by
    simp only [cParts] at h
    cases h1 : pl i with
    | none => simp [h1] at h
    | some on =>
      obtain ⟨off, n⟩ := on
      cases h2 : cX o with
      | none => simp [h1, h2] at h
      | some x =>
        cases h3 : cParts pl ps with
        | none => simp [h1, h2, h3] at h
        | some ps2 =>
          simp [h1, h2, h3] at h; subst h
          simp only [fill] at hf
          split at hf
          case h_2 => cases hf
          rename_i vs hv
          split at hf
          case isFalse => cases hf
          rename_i hc
          simp only [Option.bind_eq_some_iff] at hv
          obtain ⟨u, hu, hv⟩ := hv
          have hrel := VRel.cs (ev_sim r h2 hu) hv
          have hl1 := hrel.length
          have hl2 := hx.length
          simp only [Array.length_toList] at hl1 hl2
          have hsp : All2 (SRel ρ) (splice cs off vs) (spliceV xs off (a.eval o).cells.toList).toList := by
            simp only [splice, spliceV]
            rw [show off + (a.eval o).cells.toList.length = off + vs.length by simp; omega]
            exact ((hx.take off).append hrel).append (hx.drop _)
          obtain ⟨ys, hy, q⟩ := fill_sim r h3 hf hsp
          refine ⟨ys, ?_, q⟩
          simp only [List.map_cons, Instr.fill, h1]
          rw [if_neg (by simp; omega)]
          have := fold_splice (a.eval o).cells.toList off 0 xs (by simp; omega)
          rw [Nat.add_zero] at this
          rw [← hy, ← this]
          congr 1
          rw [← Array.foldl_toList, Array.toList_zipIdx]

theorem mapM_run {α β : Type} (f : α → Sem β) (g : α → β) (w : World) : ∀ (l : List α), (∀ x ∈ l, (f x).run P w = .ok (g x) w) → (l.mapM f).run P w = .ok (l.map g) w
  | [], _ => by simp
  | x :: l, h => by
    rw [List.mapM_cons]
    simp [h x (by simp), mapM_run f g w l (fun y hy => h y (by simp [hy]))]

theorem zero_run {t : TypeId} {z : List SV} (h : zero? P t = some z) (w : World) : ∃ x, (Go.zeroValue t).run P w = .ok x w ∧ All2 (SRel ρ) z x.cells.toList ∧ (P.info? t).bind (·.zero) = some x := by
  unfold zero? at h
  simp only [Option.bind_eq_some_iff] at h
  obtain ⟨x, ⟨i, hi, hx⟩, hz⟩ := h
  refine ⟨x, ?_, ofCells_rel hz, by simp [hi, hx]⟩
  simp [Go.zeroValue, run_typeInfo w hi, hx]

end
end Go.AM
