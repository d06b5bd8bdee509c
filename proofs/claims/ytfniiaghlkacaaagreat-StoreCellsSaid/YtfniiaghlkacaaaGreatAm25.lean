/- The bridge: a call that the abstract machine makes with read-only arguments. -/
import Derived.Test.YtfniiaghlkacaaaGreatAm24
import Derived.ProofKit
namespace Go.AM
open Go Go.RowKit

theorem run_true {P : Program} {tab : FuncId → Option Entry} (ht : TabOk P tab) {f : FuncId} {fn : Fn} (hf : FnOk P f fn) {k : Nat} {vs : List AV} {h h' : H} (hc : call tab k f vs h = some (.s (.bool true), h')) {ρ : Ren} {w : World} {xs : List Value}
    (R : Rel ρ h w) (hxs : All2 (VRel ρ) vs xs) (F : Fresh ρ h h') (hro : ∀ i, ¬ Own h i) : Calls P f xs.toArray w fun e w' => e = .returned (.bool true) ∧ Below w.heap.size w w' := by
  obtain ⟨g, c, hg, hb, hnm, _, _⟩ := hf
  rcases (call_ok ht k f vs h _ h' hc).2 ρ w xs R hxs F with ⟨_, q⟩ | ⟨x, w', q, _⟩
  · refine q.mono ?_
    rintro e w' ⟨x, rfl, ρ', R', S, V⟩
    cases V
    exact ⟨rfl, S.os, S.tape, S.out, S.size, fun b hb => S.kept b hb fun i L _ ho => absurd ho (hro i)⟩
  · simp only [callFunc, Sem.run_bind, run_program, Result.andThen_ok, hg, hnm, Bool.false_eq_true, if_false, hb, Option.isNone_some, Sem.run_pure] at q
    cases q

/-- Nothing is known of memory. -/
theorem rel_none (w : World) : Rel (fun _ => none) ⟨.nil, 0⟩ w where
  objs := fun i o L _ hL => by cases hL
  inj := fun i j Li Lj _ _ _ hL => by cases hL
  lt := fun i L hL => by cases hL
  wf := fun i _ => by cases i <;> rfl

theorem own_none (i : Nat) : ¬ Own ⟨.nil, 0⟩ i := by
  rintro (⟨cs, t, h⟩ | ⟨es, h⟩) <;> (cases i <;> cases h)

open Go.ChangeShapes Go.WideShapes in
/-- Behind a call that left all old memory as it was: what is asked of the row. -/
theorem post_of_below {H : Type} {enc : TypeId × Value → H} {P : Program} {f : Func} {s : ChangeSpec} {apart fresh handsOn again : Bool} {W W' : World} {args : Array Value} {v : Value} {ds gs : List (DataW H)} {before pa pv : List MemPlace}
    (hW : DataW.Whole enc P f.params.toList s.vars apart W args.toList ds gs before)
    (hres : ∀ (b : Nat) (sp : Nat → Bool) (hd : Bool), DataW.TrodAll enc P W' b sp hd f.resultTypes.toList (v.resultList f.resultTypes.size) (s.fn H (ds ++ gs)).results [])
    (hargs : ∀ sp : Nat → Bool, (∀ p ∈ before, sp p.block = true) → DataW.TrodAll enc P W' 0 sp true f.params.toList args.toList (s.fn H (ds ++ gs)).args pa)
    (hvars : ∀ sp : Nat → Bool, (∀ p ∈ before, sp p.block = true) → DataW.TrodVars enc P W' sp s.vars (s.fn H (ds ++ gs)).vars pv)
    (hps : before = pa ++ pv) (hB : Below W.heap.size W W')
    (hok : ∀ (j : Nat) (t : TypeId) (r : Value), f.resultTypes[j]? = some t → (v.resultList f.resultTypes.size)[j]? = some r → Value.okWide P W' .any 0 t r) :
    s.post enc P f apart fresh handsOn again W args v W' := by
  have hold : ∀ p ∈ before, (fun b => decide (b < W.heap.size)) p.block = true := fun p hp => by simpa using hW.lt p hp
  have hlt := hW.lt
  refine ⟨ds, gs, before, [], pa, pv, hW, hres _ _ _, hargs _ hold, hvars _ hold, World.keptBut_mono (fun p hp => ⟨hp, ?_⟩) (hB.frame (· ∈ before)), fun _ => ?_⟩
  · rw [hps, List.mem_append] at hp
    exact Or.inr hp
  · obtain ⟨_, _, _, _, _, hz, hn⟩ := hW
    refine ⟨hok, _, _, ([] ++ pa) ++ pv, ⟨[] ++ pa, pv, trodAll_append (hargs _ (fun _ _ => rfl)) (hres _ _ _), hvars _ (fun _ _ => rfl), rfl, ?_, ?_⟩, ?_⟩
    · intro b off hp
      have hp' : MemPlace.cell b off ∈ before := by rw [hps]; simpa using hp
      rw [hB.frozen (p := ⟨b, off, none⟩) (hlt _ hp')]
      exact hz b off hp'
    · intro ha
      have := hn ha
      rw [hps] at this
      simpa using this
    · intro p hp _
      rw [hps]
      simpa using hp

end Go.AM
