/- One function of a table. -/
import Derived.Test.YtfniiaghlkacaaaGreatAm23
import Derived.Test.YtfniiaghlkacaaaGreatAm21
namespace Go.AM
open Go

def FnOk (P : Program) (f : FuncId) (fn : Fn) : Prop := ∃ g c, P.funcs[f]? = some g ∧ g.body = some c ∧ (g.name == "runtime.NumGoroutine") = false ∧ comp P g.ntmps c = some (strip fn.body) ∧ cRes P g.results.toList = some fn.results

theorem fnOk_of {P : Program} {f : FuncId} {fn : Fn} (h1 : (P.funcs[f]?.bind fun g => g.body.bind fun c => comp P g.ntmps c) = some (strip fn.body)) (h2 : (P.funcs[f]?.map fun g => g.name == "runtime.NumGoroutine") = some false)
    (h3 : (P.funcs[f]?.bind fun g => cRes P g.results.toList) = some fn.results) : FnOk P f fn := by
  rw [Option.bind_eq_some_iff] at h1
  obtain ⟨g, hg, h1⟩ := h1
  rw [Option.bind_eq_some_iff] at h1
  obtain ⟨c, hc, h1⟩ := h1
  rw [hg] at h2 h3
  simp only [Option.map_some, Option.some.injEq] at h2
  exact ⟨g, c, hg, hc, h2, h1, h3⟩

def EntryOk (P : Program) (f : FuncId) : Entry → Prop
  | .code fn => FnOk P f fn
  | .prim p => PrimOk P f p

inductive AllOk (P : Program) : List (Nat × Entry) → Prop
  | nil : AllOk P []
  | cons {f : Nat} {e : Entry} {l : List (Nat × Entry)} : EntryOk P f e → AllOk P l → AllOk P ((f, e) :: l)

theorem AllOk.mem {P : Program} {l : List (Nat × Entry)} (h : AllOk P l) : ∀ p ∈ l, EntryOk P p.1 p.2 := by
  induction h with
  | nil => intro p hp; cases hp
  | cons h _ ih =>
    intro p hp
    rcases List.mem_cons.1 hp with rfl | hp
    · exact h
    · exact ih p hp

noncomputable def ofList (l : List (Nat × Entry)) : Tr Entry := List.rec (motive := fun _ => Tr Entry) .nil (fun p _ t => F.put t p.1 (some p.2)) l

theorem get_ofList : ∀ (l : List (Nat × Entry)) (f : Nat) (e : Entry), (ofList l).get f = some e → (f, e) ∈ l
  | [], f, e, h => by cases f <;> simp [ofList, Tr.get] at h
  | p :: l, f, e, h => by
    have h1 : ofList (p :: l) = F.put (ofList l) p.1 (some p.2) := rfl
    rw [h1, F.put_eq, Tr.get_put] at h
    split at h
    · rename_i hf
      cases h; subst hf; simp
    · exact List.mem_cons_of_mem _ (get_ofList l f e h)

noncomputable def tabOf (l : List (Nat × Entry)) : FuncId → Option Entry := fun f => F.get (ofList l) f

theorem tabOk_of {P : Program} {l : List (Nat × Entry)} (h : AllOk P l) : TabOk P (tabOf l) := by
  intro f
  have key : ∀ e, tabOf l f = some e → EntryOk P f e := fun e he => h.mem (f, e) (get_ofList l f e (by rw [← F.get_eq]; exact he))
  exact ⟨fun p hp => key _ hp, fun fn hf => key _ hf⟩

def yes : Option (AV × H) → Bool
  | some (.s (.bool true), _) => true
  | _ => false

theorem yes_of {o : Option (AV × H)} (h : yes o = true) : ∃ h', o = some (.s (.bool true), h') := by
  unfold yes at h
  split at h
  · exact ⟨_, rfl⟩
  · cases h

end Go.AM
