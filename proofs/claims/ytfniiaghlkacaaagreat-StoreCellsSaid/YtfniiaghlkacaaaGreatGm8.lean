/- What was shown of functions may stand in a table as a function. -/
import Derived.Test.YtfniiaghlkacaaaGreatGm7
import Derived.Test.YtfniiaghlkacaaaGreatAm24
namespace Go.AM.G
open Go Go.AM
set_option linter.unusedSimpArgs false

/-- Nothing stands behind the heap. -/
def Wf (h : H) : Prop := ∀ i, h.nx ≤ i → h.get i = none

/-- The same heap, where all that was there is as it was, with less behind. -/
structure Lean2 (h h' h'' : H) : Prop where
  nx : h''.nx = h'.nx
  old : ∀ i, i < h.nx → h''.get i = h'.get i
  less : ∀ i, h''.get i = h'.get i ∨ h''.get i = none

theorem prim_of_lim {P : Program} {tab : FuncId → Option Entry} (ht : TabOk P tab) {f : FuncId} {p : List AV → H → Option (AV × H)}
    (hp : ∀ vs h r h'', p vs h = some (r, h'') → h.nx ≤ h''.nx ∧ (Wf h → ∃ h', lim tab f vs h = some (r, h') ∧ Lean2 h h' h'')) : PrimOk P f p := by
  intro vs h r h'' hr
  obtain ⟨h1, h2⟩ := hp vs h r h'' hr
  refine ⟨h1, fun ρ w xs R hxs F => ?_⟩
  obtain ⟨h', hc, l⟩ := h2 (fun i hi => R.wf i hi)
  obtain ⟨k, hk⟩ := lim_spec.1 hc
  have l' : Less h h' h'' := ⟨l.nx, l.old, l.less⟩
  obtain ⟨-, h3⟩ := call_ok ht k f vs h r h' hk
  rcases h3 ρ w xs R hxs (fun i a b => F i a (by rw [l.nx]; exact b)) with ⟨q1, q2⟩ | ⟨x, w', q1, q2⟩
  · exact .inl ⟨q1, q2.mono fun e w' => by rintro ⟨x, rfl, q⟩; exact ⟨x, rfl, q.less l'⟩⟩
  · exact .inr ⟨x, w', q1, q2.less l'⟩

/-- A heap with one more block, at its end. -/
def top (h : H) (n : Nat) (o : AO) : H := ⟨h.m.put (h.nx + n) (some o), h.nx + n + 1⟩

theorem get_top (h : H) (n : Nat) (o : AO) (i : Nat) : (top h n o).get i = if i = h.nx + n then some o else h.get i := by
  simp only [top, H.get, Tr.get_put]

theorem lean_top {h h' : H} {n : Nat} {o : AO} (hw : Wf h) (e : Ext h h') (hn : h'.nx = h.nx + n + 1) (hg : h'.get (h.nx + n) = some o) : Lean2 h h' (top h n o) := by
  refine ⟨hn.symm, fun i hi => ?_, fun i => ?_⟩
  · rw [get_top, if_neg (by omega), e.old i hi]
  · rw [get_top]
    split
    · rename_i q; subst q; exact .inl hg.symm
    · by_cases hi : i < h.nx
      · exact .inl (e.old i hi).symm
      · exact .inr (hw i (by omega))

end Go.AM.G
