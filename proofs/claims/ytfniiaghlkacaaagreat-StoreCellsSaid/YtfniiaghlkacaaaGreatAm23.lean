/- The library's atomic functions. -/
import Derived.Test.YtfniiaghlkacaaaGreatAm22
import Derived.Laws.LoneSync
namespace Go.AM
open Go
set_option linter.unusedSimpArgs false

def addP : List AV → H → Option (AV × H)
  | [.s (.ptr (some (i, o))), .s (.int .i64 n)], h => match h.get i with
    | some (.cells cs t false) => match cs[o]? with
      | some (.int .i64 v) => some (.s (.int .i64 (IntKind.i64.wrap (v + n))), h.set i (.cells (splice cs o [.int .i64 (IntKind.i64.wrap (v + n))]) t false))
      | _ => none
    | _ => none
  | _, _ => none

def loadP : List AV → H → Option (AV × H)
  | [.s (.ptr (some (i, o)))], h => match h.get i with
    | some (.cells cs _ _) => match cs[o]? with
      | some (.int .i64 v) => some (.s (.int .i64 v), h)
      | _ => none
    | _ => none
  | _, _ => none

def storeP : List AV → H → Option (AV × H)
  | [.s (.ptr (some (i, o))), .s (.int .i64 n)], h => match h.get i with
    | some (.cells cs t false) => if o < cs.length then some (.tup [], h.set i (.cells (splice cs o [.int .i64 n]) t false)) else none
    | _ => none
  | _, _ => none

section
variable {P : Program} {ρ : Ren} {h : H} {w : World}

theorem cell_at (R : Rel ρ h w) {i o : Nat} {cs : List SV} {t : TypeId} {ro : Bool} {L : Loc} (hg : h.get i = some (.cells cs t ro)) (hL : ρ i = some L) {v : SV} (hv : cs[o]? = some v) :
    ∃ x, w.cell? ⟨L.b, L.s + o, none⟩ = some x ∧ SRel ρ v x ∧ (ro = false → w.frozen? ⟨L.b, L.s + o, none⟩ = false) := by
  obtain ⟨c, t', fz, hb, hs, hn, hcell, hfz⟩ := R.objs i _ L hg hL
  obtain ⟨x, hx, q⟩ := hcell o v hv
  refine ⟨x, by rw [cell_of hb]; exact hx, q, fun hro => ?_⟩
  have hlt : o < cs.length := by
    rcases Nat.lt_or_ge o cs.length with q | q
    · exact q
    · rw [List.getElem?_eq_none q] at hv; cases hv
  rw [frozen_of hb]
  have := hfz hro (L.s + o) (by omega)
  simp only [Bool.and_eq_false_iff, decide_eq_false_iff_not]
  omega

/-- One cell that is written. -/
theorem set_at (P : Program) (R : Rel ρ h w) {i o : Nat} {cs : List SV} {t : TypeId} {L : Loc} (hg : h.get i = some (.cells cs t false)) (hL : ρ i = some L) {v u : SV} (hv : cs[o]? = some v) {x : Value} (hx : SRel ρ u x) :
    Rel ρ (h.set i (.cells (splice cs o [u]) t false)) (w.setCell ⟨L.b, L.s + o, none⟩ x) ∧ Step ρ h w ρ (h.set i (.cells (splice cs o [u]) t false)) (w.setCell ⟨L.b, L.s + o, none⟩ x) := by
  obtain ⟨y, hc, _, hz⟩ := cell_at R hg hL hv
  have hlt : o < cs.length := by
    rcases Nat.lt_or_ge o cs.length with q | q
    · exact q
    · rw [List.getElem?_eq_none q] at hv; cases hv
  obtain ⟨w', h1, h2, h3⟩ := store_run (o := o) R hg hL (All2.one hx) (by simp; omega) P
  have h4 : (storeCells ⟨L.b, L.s + o, none⟩ [x]).run P w = .ok () (w.setCell ⟨L.b, L.s + o, none⟩ x) := by
    simp only [storeCells, Sem.run_bind, add_none, Nat.add_zero]
    rw [run_store P w _ x _ hx.oneCell, hc]
    simp [hz rfl]
  rw [h4] at h1
  cases h1
  exact ⟨h2, h3⟩

structure IsExtern (P : Program) (f : FuncId) (fn : Func) (e : Array Value → Sem Value) : Prop where
  at_ : P.funcs[f]? = some fn
  name : (fn.name == "runtime.NumGoroutine") = false
  body : fn.body.isNone = true
  next : (Extern.findNext fn).isNone = true
  find : Extern.find fn = some e

theorem addP_ok {f : FuncId} {fn : Func} (E : IsExtern P f fn (Extern.Atomic.update (Op.intArith .add) .i64 true)) : PrimOk P f addP := by
  intro vs h r h' hr
  unfold addP at hr
  split at hr
  case h_2 => cases hr
  rename_i i o n
  split at hr
  case h_2 => cases hr
  rename_i cs t hg
  split at hr
  case h_2 => cases hr
  rename_i v hv
  cases hr
  refine ⟨Nat.le_refl _, fun ρ w xs R hxs F => .inr ?_⟩
  cases hxs with
  | cons q1 q =>
    cases q with
    | cons q2 q =>
      cases q
      obtain ⟨L, hL, rfl⟩ := q1
      cases q2
      obtain ⟨x, hc, q, hz⟩ := cell_at R hg hL hv
      cases q
      obtain ⟨r1, r2⟩ := set_at P R hg hL hv (u := .int .i64 (IntKind.i64.wrap (v + n))) (x := .int .i64 (IntKind.i64.wrap (v + n))) rfl
      exact ⟨_, _, run_call_add E.at_ E.name E.body (Option.isNone_iff_eq_none.1 E.next) .i64 E.find hc (hz rfl) (by simp [Op.intArith]), ρ, r1, r2, rfl⟩

theorem loadP_ok {f : FuncId} {fn : Func} (E : IsExtern P f fn (Extern.Atomic.loadT (.int .i64))) : PrimOk P f loadP := by
  intro vs h r h' hr
  unfold loadP at hr
  split at hr
  case h_2 => cases hr
  rename_i i o
  split at hr
  case h_2 => cases hr
  rename_i cs t ro hg
  split at hr
  case h_2 => cases hr
  rename_i v hv
  cases hr
  refine ⟨Nat.le_refl _, fun ρ w xs R hxs F => .inr ?_⟩
  cases hxs with
  | cons q1 q =>
    cases q
    obtain ⟨L, hL, rfl⟩ := q1
    obtain ⟨x, hc, q, hz⟩ := cell_at R hg hL hv
    cases q
    exact ⟨_, _, run_call_load E.at_ E.name E.body (Option.isNone_iff_eq_none.1 E.next) .i64 E.find hc, ρ, R, Step.refl .., rfl⟩

theorem storeP_ok {f : FuncId} {fn : Func} (E : IsExtern P f fn Extern.Atomic.storeT) : PrimOk P f storeP := by
  intro vs h r h' hr
  unfold storeP at hr
  split at hr
  case h_2 => cases hr
  rename_i i o n
  split at hr
  case h_2 => cases hr
  rename_i cs t hg
  split at hr
  case isFalse => cases hr
  rename_i hlt
  cases hr
  refine ⟨Nat.le_refl _, fun ρ w xs R hxs F => .inr ?_⟩
  cases hxs with
  | cons q1 q =>
    cases q with
    | cons q2 q =>
      cases q
      obtain ⟨L, hL, rfl⟩ := q1
      cases q2
      have hv : cs[o]? = some cs[o] := List.getElem?_eq_getElem hlt
      obtain ⟨x, hc, q, hz⟩ := cell_at R hg hL hv
      obtain ⟨r1, r2⟩ := set_at P R hg hL hv (u := .int .i64 n) (x := .int .i64 n) rfl
      exact ⟨_, _, run_call_store E.at_ E.name E.body (Option.isNone_iff_eq_none.1 E.next) E.find hc (hz rfl), ρ, r1, r2, #[], rfl, .nil⟩

end
end Go.AM
