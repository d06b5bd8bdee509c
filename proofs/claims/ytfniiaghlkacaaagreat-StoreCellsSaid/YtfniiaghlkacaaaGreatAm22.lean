/- What was shown of code may stand in a table as a function. -/
import Derived.Test.YtfniiaghlkacaaaGreatAm19
namespace Go.AM
open Go
set_option linter.unusedSimpArgs false

section
variable {P : Program} {ρ : Ren} {h : H} {w : World}

/-- A heap with less in it: nothing that was there ahead is missing. -/
structure Less (h h' h'' : H) : Prop where
  nx : h''.nx = h'.nx
  old : ∀ i, i < h.nx → h''.get i = h'.get i
  less : ∀ i, h''.get i = h'.get i ∨ h''.get i = none

theorem Less.refl (h h' : H) : Less h h' h' := ⟨rfl, fun _ _ => rfl, fun _ => .inl rfl⟩

theorem Post.less {r : AV} {h' h'' : H} {x : Value} {w' : World} (l : Less h h' h'') : Post ρ h w r h' x w' → Post ρ h w r h'' x w' := by
  rintro ⟨ρ', R, S, V⟩
  have sub : ∀ i o, h''.get i = some o → h'.get i = some o := by
    intro i o hi
    rcases l.less i with q | q
    · rw [← q]; exact hi
    · rw [q] at hi; cases hi
  have sub' : ∀ i, (h''.get i).isSome → (h'.get i).isSome := by
    intro i hi
    obtain ⟨o, ho⟩ := Option.isSome_iff_exists.1 hi
    rw [sub i o ho]; rfl
  refine ⟨ρ', ⟨fun i o L hi hL => R.objs i o L (sub i o hi) hL, fun i j Li Lj hij hi hj => R.inj i j Li Lj hij (sub' i hi) (sub' j hj), R.lt, fun i hi => ?_⟩, ?_, V⟩
  · rcases l.less i with q | q
    · rw [q]; exact R.wf i (by rw [← l.nx]; exact hi)
    · exact q
  · exact { S with far := fun i hi => S.far i (by rw [← l.nx]; exact hi), newb := fun i L h1 h2 => S.newb i L h1 (by rw [← l.nx]; exact h2), live := fun i hi o => S.live i hi (o.congr (l.old i hi)), ghost := fun i hi hn => (l.old i hi).trans (S.ghost i hi hn), dead := fun i hi hn => (l.old i hi).trans (S.dead i hi hn), nx := by rw [l.nx]; exact S.nx }

/-- Code that was run once and for all. -/
theorem prim_of_code {tab : FuncId → Option Entry} (ht : TabOk P tab) {f : FuncId} {p : List AV → H → Option (AV × H)}
    (hp : ∀ vs h r h'', p vs h = some (r, h'') → ∃ k h', call tab k f vs h = some (r, h') ∧ Less h h' h'') : PrimOk P f p := by
  intro vs h r h'' hr
  obtain ⟨k, h', hc, l⟩ := hp vs h r h'' hr
  obtain ⟨h1, h2⟩ := call_ok ht k f vs h r h' hc
  refine ⟨by rw [l.nx]; exact h1, fun ρ w xs R hxs F => ?_⟩
  rcases h2 ρ w xs R hxs (fun i a b => F i a (by rw [l.nx]; exact b)) with ⟨q1, q2⟩ | ⟨x, w', q1, q2⟩
  · exact .inl ⟨q1, q2.mono fun e w' => by rintro ⟨x, rfl, q⟩; exact ⟨x, rfl, q.less l⟩⟩
  · exact .inr ⟨x, w', q1, q2.less l⟩

end


end Go.AM
