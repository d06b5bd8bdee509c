/- A call without arguments that hands back true changes nothing that is known. -/
import Derived.Test.YtfniiaghlkacaaaGreatAm26
namespace Go.AM
open Go

def pTrue (vs : List AV) (h : H) : Option (AV × H) := match vs with
  | [] => some (.s (.bool true), h)
  | _ => none

theorem pTrue_ok {P : Program} {tab : FuncId → Option Entry} (ht : TabOk P tab) {f : FuncId} {k : Nat} {h0 : H} (hc : call tab k f [] ⟨.nil, 0⟩ = some (.s (.bool true), h0)) : PrimOk P f pTrue := by
  intro vs h r h' hp
  unfold pTrue at hp
  split at hp
  · simp only [Option.some.injEq, Prod.mk.injEq] at hp
    obtain ⟨rfl, rfl⟩ := hp
    refine ⟨Nat.le_refl _, fun ρ w xs R hxs _ => ?_⟩
    cases hxs
    have key : ∀ (x : Value) (w' : World), Post (fun _ => none) ⟨.nil, 0⟩ w (.s (.bool true)) h0 x w' → Post ρ h w (.s (.bool true)) h x w' := by
      rintro x w' ⟨ρ', R', S, V⟩
      have kept : ∀ b, b < w.heap.size → w'.heap[b]? = w.heap[b]? := fun b hb => S.kept b hb fun i L _ ho => absurd ho (own_none i)
      refine ⟨ρ, ⟨fun i o L h1 h2 => (R.objs i o L h1 h2).same (kept _ (R.lt i L h2)), R.inj, fun i L h1 => Nat.lt_of_lt_of_le (R.lt i L h1) S.size, R.wf⟩, ?_, ?_⟩
      · exact ⟨S.size, S.os, S.out, S.tape, fun b hb _ => kept b hb, fun _ _ => rfl, fun _ _ => rfl, fun i L h1 h2 => by omega, fun _ _ h => h, fun _ _ _ => rfl, fun _ _ h => h, Nat.le_refl _⟩
      · cases V; rfl
    rcases (call_ok ht k f [] ⟨.nil, 0⟩ _ h0 hc).2 (fun _ => none) w [] (rel_none w) .nil (fun _ _ _ => rfl) with ⟨q1, q2⟩ | ⟨x, w', q1, q2⟩
    · exact .inl ⟨q1, q2.mono fun e w' => by rintro ⟨x, rfl, q⟩; exact ⟨x, rfl, key x w' q⟩⟩
    · exact .inr ⟨x, w', q1, key x w' q2⟩
  · cases hp

end Go.AM
