/- A call with numbers alone that hands back true changes nothing that is known. -/
import Derived.Test.YtfniiaghlkacaaaGreatAm27
namespace Go.AM
open Go

def plainS : SV → Bool
  | .int .. | .bool .. | .str .. | .ptr none | .sl none .. | .map none | .nilfn => true
  | _ => false

def plainV : AV → Bool
  | .s v => plainS v
  | .agg cs => cs.all plainS
  | .tup _ => false

theorem plainS_rel {ρ ρ' : Ren} {v : SV} {x : Value} (h : plainS v = true) (q : SRel ρ v x) : SRel ρ' v x := by
  cases v with
  | int => exact q
  | bool => exact q
  | str => exact q
  | ptr a => cases a with
    | none => exact q
    | some => cases h
  | sl a => cases a with
    | none => exact q
    | some => cases h
  | map a => cases a with
    | none => exact q
    | some => cases h
  | fn => cases h
  | nilfn => exact q

theorem plainL_rel {ρ ρ' : Ren} : ∀ {cs : List SV} {xs : List Value}, cs.all plainS = true → All2 (SRel ρ) cs xs → All2 (SRel ρ') cs xs
  | [], _, _, .nil => .nil
  | c :: cs, _, h, .cons q r => by
    simp only [List.all_cons, Bool.and_eq_true] at h
    exact .cons (plainS_rel h.1 q) (plainL_rel h.2 r)

theorem plainV_rel {ρ ρ' : Ren} {v : AV} {x : Value} (h : plainV v = true) (q : VRel ρ v x) : VRel ρ' v x := by
  cases v with
  | s v => exact plainS_rel h q
  | agg cs => obtain ⟨a, e, q⟩ := q; exact ⟨a, e, plainL_rel h q⟩
  | tup => cases h

theorem plainVs_rel {ρ ρ' : Ren} : ∀ {vs : List AV} {xs : List Value}, vs.all plainV = true → All2 (VRel ρ) vs xs → All2 (VRel ρ') vs xs
  | [], _, _, .nil => .nil
  | c :: cs, _, h, .cons q r => by
    simp only [List.all_cons, Bool.and_eq_true] at h
    exact .cons (plainV_rel h.1 q) (plainVs_rel h.2 r)

def pTrueAt (vs0 : List AV) (vs : List AV) (h : H) : Option (AV × H) := if vs = vs0 then some (.s (.bool true), h) else none

theorem pTrueAt_ok {P : Program} {tab : FuncId → Option Entry} (ht : TabOk P tab) {f : FuncId} {k : Nat} {h0 : H} {vs0 : List AV} (hpl : vs0.all plainV = true) (hc : call tab k f vs0 ⟨.nil, 0⟩ = some (.s (.bool true), h0)) : PrimOk P f (pTrueAt vs0) := by
  intro vs h r h' hp
  unfold pTrueAt at hp
  split at hp
  · rename_i hvs
    subst hvs
    simp only [Option.some.injEq, Prod.mk.injEq] at hp
    obtain ⟨rfl, rfl⟩ := hp
    refine ⟨Nat.le_refl _, fun ρ w xs R hxs _ => ?_⟩
    have key : ∀ (x : Value) (w' : World), Post (fun _ => none) ⟨.nil, 0⟩ w (.s (.bool true)) h0 x w' → Post ρ h w (.s (.bool true)) h x w' := by
      rintro x w' ⟨ρ', R', S, V⟩
      have kept : ∀ b, b < w.heap.size → w'.heap[b]? = w.heap[b]? := fun b hb => S.kept b hb fun i L _ ho => absurd ho (own_none i)
      refine ⟨ρ, ⟨fun i o L h1 h2 => (R.objs i o L h1 h2).same (kept _ (R.lt i L h2)), R.inj, fun i L h1 => Nat.lt_of_lt_of_le (R.lt i L h1) S.size, R.wf⟩, ?_, ?_⟩
      · exact ⟨S.size, S.os, S.out, S.tape, fun b hb _ => kept b hb, fun _ _ => rfl, fun _ _ => rfl, fun i L h1 h2 => by omega, fun _ _ h => h, fun _ _ _ => rfl, fun _ _ h => h, Nat.le_refl _⟩
      · cases V; rfl
    rcases (call_ok ht k f vs ⟨.nil, 0⟩ _ h0 hc).2 (fun _ => none) w xs (rel_none w) (plainVs_rel hpl hxs) (fun _ _ _ => rfl) with ⟨q1, q2⟩ | ⟨x, w', q1, q2⟩
    · exact .inl ⟨q1, q2.mono fun e w' => by rintro ⟨x, rfl, q⟩; exact ⟨x, rfl, key x w' q⟩⟩
    · exact .inr ⟨x, w', q1, key x w' q2⟩
  · cases hp

end Go.AM
