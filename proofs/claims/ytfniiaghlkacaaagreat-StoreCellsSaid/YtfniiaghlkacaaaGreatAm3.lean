/- Operations that touch no memory, and those that read it. -/
import Derived.Test.YtfniiaghlkacaaaGreatAm2
import Derived.Laws.StructEq
import Derived.Laws.Strings
namespace Go.AM
open Go

theorem ofCell_rel {ρ : Ren} {x : Value} {v : SV} (h : ofCell x = some v) : SRel ρ v x := by
  unfold ofCell at h
  split at h <;> first | (cases h; done) | (cases h; simp [SRel])

theorem ofCells_rel {ρ : Ren} : ∀ {xs : List Value} {vs : List SV}, ofCells xs = some vs → All2 (SRel ρ) vs xs
  | [], vs, h => by cases h; exact .nil
  | x :: xs, vs, h => by
    simp only [ofCells] at h
    cases h1 : ofCell x with
    | none => simp [h1] at h
    | some a =>
      cases h2 : ofCells xs with
      | none => simp [h1, h2] at h
      | some b => simp [h1, h2] at h; subst h; exact .cons (ofCell_rel h1) (ofCells_rel h2)

theorem ofVal_rel {ρ : Ren} {x : Value} {v : AV} (h : ofVal x = some v) : VRel ρ v x := by
  unfold ofVal at h
  split at h
  · simp only [Option.map_eq_some_iff] at h
    obtain ⟨vs, h, rfl⟩ := h
    exact ⟨_, rfl, ofCells_rel h⟩
  · simp only [Option.map_eq_some_iff] at h
    obtain ⟨vs, h, rfl⟩ := h
    exact ofCell_rel h

def EnvRel (ρ : Ren) (e : Env) (tm : Array Value) : Prop := ∀ n v, e.get n = some v → ∃ x, tm[n]? = some x ∧ VRel ρ v x

theorem EnvRel.mono {ρ ρ' : Ren} (h : ρ.le ρ') {e : Env} {tm : Array Value} (r : EnvRel ρ e tm) : EnvRel ρ' e tm :=
  fun n v hv => let ⟨x, a, b⟩ := r n v hv; ⟨x, a, b.mono h⟩

section
variable {P : Program} {ρ : Ren} {e : Env} {a : Act}

theorem ev_sim (r : EnvRel ρ e a.tmps) {o : Operand} {x : X} {v : AV} (hx : cX o = some x) (hv : x.ev e = some v) : VRel ρ v (a.eval o) := by
  cases o with
  | tmp t =>
    cases hx
    obtain ⟨y, h1, h2⟩ := r t v hv
    simp only [Act.eval]
    rw [Array.getD_eq_getD_getElem?, h1]
    exact h2
  | const c =>
    simp only [cX, Option.map_eq_some_iff] at hx
    obtain ⟨w, hx, rfl⟩ := hx
    cases hv
    exact ofVal_rel hx
  | global g => cases hx
  | func f => cases hx; cases hv; exact ⟨#[], #[], rfl, .nil, .nil⟩

theorem evs_sim (r : EnvRel ρ e a.tmps) : ∀ {os : List Operand} {xs : List X} {vs : List AV}, cXs os = some xs → evs e xs = some vs → All2 (VRel ρ) vs (os.map a.eval)
  | [], xs, vs, h, hv => by cases h; cases hv; exact .nil
  | o :: os, xs, vs, h, hv => by
    simp only [cXs] at h
    cases h1 : cX o with
    | none => simp [h1] at h
    | some x =>
      cases h2 : cXs os with
      | none => simp [h1, h2] at h
      | some xs' =>
        simp [h1, h2] at h; subst h
        simp only [evs] at hv
        cases h3 : x.ev e with
        | none => simp [h3] at hv
        | some v =>
          cases h4 : evs e xs' with
          | none => simp [h3, h4] at hv
          | some vs' => simp [h3, h4] at hv; subst hv; exact .cons (ev_sim r h1 h3) (evs_sim r h2 h4)

theorem VRel.int_inv {k : IntKind} {n : Int} {x : Value} (h : VRel ρ (.s (.int k n)) x) : x = .int k n := h
theorem VRel.bool_inv {b : Bool} {x : Value} (h : VRel ρ (.s (.bool b)) x) : x = .bool b := h
theorem VRel.str_inv {s : List UInt8} {x : Value} (h : VRel ρ (.s (.str s)) x) : x = .string ⟨s.toArray⟩ := h

/-! ### arithmetic -/

theorem toList_mk (l : List UInt8) : ByteArray.toList ⟨l.toArray⟩ = l := by
  rw [ByteArray.toList_eq]

theorem size_mk (l : List UInt8) : ByteArray.size ⟨l.toArray⟩ = l.length := by simp [ByteArray.size]

theorem append_mk (a b : List UInt8) : (⟨a.toArray⟩ ++ ⟨b.toArray⟩ : ByteArray) = ⟨(a ++ b).toArray⟩ := by
  apply ByteArray.ext
  simp

theorem less_eq : ∀ (a b : List UInt8), Op.bytesLess a b = bytesLess a b
  | [], [] => by simp [Op.bytesLess, bytesLess]
  | _ :: _, [] => by simp [Op.bytesLess, bytesLess]
  | [], _ :: _ => by simp [Op.bytesLess, bytesLess]
  | a :: x, b :: y => by simp [Op.bytesLess, bytesLess, less_eq x y]

theorem bin_sim (P : Program) {op : BinOp} {t : TypeId} {X Y : Operand} {u v r : AV} {x y : Value} (hx : VRel ρ u x) (hy : VRel ρ v y) (h : bin op u v = some r) (w : World) :
    ∃ z, (do eqGuard op t X Y x y; Go.binOp op t x y : Sem Value).run P w = .ok z w ∧ VRel ρ r z := by
  unfold bin at h
  split at h
  · rename_i k m k' n
    cases hx; cases hy
    have hg : (eqGuard op t X Y (.int k m) (.int k' n)).run P w = .ok () w := by
      unfold eqGuard; cases op <;> rfl
    simp only [Sem.run_bind, hg, Result.andThen_ok]
    cases op
    all_goals first
      | (by_cases hk : k = k'
         · subst hk
           simp only [if_true] at h
           first
             | (cases h; refine ⟨_, ?_, rfl⟩; simp [Go.binOp, Op.intArith, Op.intBits, Op.intCmp]; done)
             | (by_cases hn : n = 0
                · simp [hn] at h
                · simp only [hn, if_false] at h
                  cases h
                  refine ⟨_, ?_, rfl⟩
                  simp [Go.binOp, Op.intDiv, hn])
             | (simp at h; done)
         · simp [hk] at h; done)
      | (by_cases hn : n < 0
         · simp [hn] at h
         · simp only [hn, if_false] at h
           cases h
           refine ⟨_, ?_, rfl⟩
           simp [Go.binOp, Op.shift, hn])
  · rename_i s s'
    cases hx; cases hy
    have hg : (eqGuard op t X Y (.string ⟨s.toArray⟩) (.string ⟨s'.toArray⟩)).run P w = .ok () w := by
      unfold eqGuard; cases op <;> rfl
    simp only [Sem.run_bind, hg, Result.andThen_ok]
    cases op <;> simp only [Option.some.injEq, reduceCtorEq] at h
    all_goals first
      | (split at h
         · cases h
           refine ⟨.string ⟨(s ++ s').toArray⟩, ?_, rfl⟩
           have : ¬ ((s.length + s'.length : Nat) : Int) > IntKind.i64.max := by
             have e : IntKind.i64.max = 9223372036854775807 := by decide
             rw [e]; omega
           simp only [Go.binOp, Op.stringOp, size_mk, append_mk]
           rw [if_neg this]
           rfl
         · cases h)
      | (subst h
         refine ⟨_, ?_, rfl⟩
         simp only [Go.binOp, Op.stringOp, toList_mk, less_eq]
         rfl)
  · cases h

end
end Go.AM
