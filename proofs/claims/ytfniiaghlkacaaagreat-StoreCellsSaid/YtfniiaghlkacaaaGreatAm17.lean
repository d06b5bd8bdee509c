/- A region whose order is the text's. -/
import Derived.Test.YtfniiaghlkacaaaGreatAm16
namespace Go.AM
open Go
set_option linter.unusedSimpArgs false

section
variable {P : Program} {ρ : Ren} {e : Env} {a : Act} {h : H} {w : World}

theorem cOr_inv {nt : Nat} {ops : Array Oper} {bef : Array Nat} {i : Nat} {o : Oper} {q : Or} (hq : cOr P nt ops bef i o = some q) :
    q.dst = o.dst ∧ (∀ n, o.dst = some n → n < nt) ∧ q.op = (cOp P o.op).getD stuckOp ∧ q.bef = bef.getD i 0 ∧
      ((o.guard = none ∧ q.guard = none) ∨ ∃ j b d, o.guard = some (j, b) ∧ (ops[j]?).bind (·.dst) = some d ∧ q.guard = some (d, b)) := by
  unfold cOr at hq
  split at hq
  · cases hq
  rename_i hd
  have hd : ∀ n, o.dst = some n → n < nt := by
    intro n hn
    rw [hn] at hd
    simpa using hd
  split at hq
  · rename_i hg
    cases hq
    exact ⟨rfl, hd, rfl, rfl, .inl ⟨hg, rfl⟩⟩
  · rename_i j b hg
    split at hq
    · rename_i d hj
      cases hq
      exact ⟨rfl, hd, rfl, rfl, .inr ⟨j, b, d, hg, hj, rfl⟩⟩
    · cases hq

theorem wants_sim (r : EnvRel ρ e a.tmps) {nt : Nat} {ops : Array Oper} {bef : Array Nat} {i : Nat} {o : Oper} {q : Or} (hq : cOr P nt ops bef i o = some q) {b : Bool} (hw : wants e q.guard = some b) :
    Region.wanted o (yielded ops a.tmps) = b := by
  obtain ⟨_, _, _, _, hg⟩ := cOr_inv hq
  rcases hg with ⟨h1, h2⟩ | ⟨j, c, d, h1, h2, h3⟩
  · rw [h2] at hw
    simp [wants] at hw
    subst hw
    simp [Region.wanted, h1]
  · rw [h3] at hw
    simp only [wants] at hw
    simp only [Region.wanted, h1, yielded, h2, Option.bind_some]
    split at hw
    · rename_i c' hc'
      cases hw
      obtain ⟨x, hx, hr⟩ := r d _ hc'
      cases hr
      rw [hx]
      cases c' <;> cases c <;> rfl
    · rename_i hc'
      cases hw
      obtain ⟨x, hx, _, rfl, _⟩ := r d _ hc'
      rw [hx]
      rfl
    · cases hw

theorem stuck_step {cl : FuncId → List AV → H → Option (AV × H)} : step1 cl e h stuckOp = none := rfl

theorem runOps_nx {cl : FuncId → List AV → H → Option (AV × H)} (hcl : CallsOk P cl) : ∀ {os : List Or} {e : Env} {h : H} {e' : Env} {h' : H}, runOps cl os e h = some (e', h') → h.nx ≤ h'.nx
  | [], e, h, e', h', hr => by cases hr; exact Nat.le_refl _
  | o :: os, e, h, e', h', hr => by
    simp only [runOps] at hr
    split at hr
    · split at hr
      · rename_i hs
        exact Nat.le_trans (step_nx hcl hs) (runOps_nx hcl hr)
      · cases hr
    · exact runOps_nx hcl hr
    · cases hr

/-- What is owed behind a row of operations. -/
def Behind (ρ : Ren) (h : H) (w : World) (a : Act) (e' : Env) (h' : H) (K : Act → World → Prop) : Prop :=
  ∀ a' w' ρ', Rel ρ' h' w' → Step ρ h w ρ' h' w' → EnvRel ρ' e' a'.tmps → a'.tmps.size = a.tmps.size → a'.defers = a.defers → K a' w'

theorem ops_sim {cl : FuncId → List AV → H → Option (AV × H)} (hcl : CallsOk P cl) {nt : Nat} {ops : Array Oper} {bef : Array Nat} {Q : Exit → Act → World → Prop} :
    ∀ (l : List Oper) (i : Nat) (os : List Or) (e : Env) (h : H) (e' : Env) (h' : H) (ρ : Ren) (a : Act) (w : World), (∀ j, l[j]? = ops[i + j]?) → cOrs P nt ops bef i l = some os → runOps cl os e h = some (e', h') →
      EnvRel ρ e a.tmps → Rel ρ h w → Fresh ρ h h' → nt ≤ a.tmps.size → Behind ρ h w a e' h' (Q .normal) → wpOps P ops Q (List.range' i l.length) a w
  | [], i, os, e, h, e', h', ρ, a, w, _, hc, hr, r, R, _, _, K => by
    cases hc
    cases hr
    exact K a w ρ R (Step.refl ..) r rfl rfl
  | o :: l, i, os, e, h, e', h', ρ, a, w, hl, hc, hr, r, R, F, hnt, K => by
    simp only [cOrs] at hc
    split at hc
    case h_2 => cases hc
    rename_i q qs hq hqs
    cases hc
    have ho : ops[i]? = some o := by have := hl 0; simpa using this.symm
    have hl' : ∀ j, l[j]? = ops[i + 1 + j]? := by
      intro j
      have := hl (j + 1)
      rw [List.getElem?_cons_succ] at this
      rw [this]; congr 1; omega
    obtain ⟨hd, hdn, hop, _, _⟩ := cOr_inv hq
    have hdst : ∀ n, q.dst = some n → n < a.tmps.size := fun n hn => Nat.lt_of_lt_of_le (hdn n (hd ▸ hn)) hnt
    rw [List.length_cons, List.range'_succ]
    simp only [wpOps, ho]
    simp only [runOps] at hr
    split at hr
    · rename_i hw
      rw [wants_sim r hq hw, if_pos rfl]
      split at hr
      case h_2 => cases hr
      rename_i v h1 hs
      refine .inl ?_
      cases hcop : cOp P o.op with
      | none => rw [hop, hcop] at hs; rw [Option.getD_none, stuck_step] at hs; cases hs
      | some op =>
        rw [hop, hcop] at hs
        simp only [Option.getD_some] at hs
        have hn1 := runOps_nx hcl hr
        refine oper_sim hcl r R hcop hs (F.left hn1) ?_
        intro x w' ρ' R' S' hv
        refine ops_sim hcl l (i + 1) qs _ h1 e' h' ρ' _ w' hl' hqs hr ?_ R' (F.right S') (by rw [put_size]; exact hnt) ?_
        · have := env_setD (r.mono (S'.le (F.left hn1))) (d := q.dst) hdst (v := v) (x := x) hv
          rw [hd] at this ⊢
          exact this
        · intro a' w2 ρ2 R2 S2 r2 hs2 hd2
          exact K a' w2 ρ2 R2 (S'.trans R' S2) r2 (hs2.trans (put_size ..)) (hd2.trans (put_defers ..))
    · rename_i hw
      rw [wants_sim r hq hw, if_neg (by simp)]
      refine ops_sim hcl l (i + 1) qs _ h e' h' ρ _ w hl' hqs hr ?_ R F (by rw [put_size]; exact hnt) ?_
      · have := env_setD r (d := q.dst) hdst (v := some (.tup [])) (x := undef) (fun _ hu => by cases hu; exact ⟨#[], rfl, .nil⟩)
        rw [hd] at this ⊢
        exact this
      · intro a' w2 ρ2 R2 S2 r2 hs2 hd2
        exact K a' w2 ρ2 R2 S2 r2 (hs2.trans (put_size ..)) (hd2.trans (put_defers ..))
    · cases hr

theorem region_sim {cl : FuncId → List AV → H → Option (AV × H)} (hcl : CallsOk P cl) {nt id : Nat} {ops : Array Oper} {bef : Array Nat} {os : List Or} (hc : cOrs P nt ops bef 0 ops.toList = some os) {e' : Env} {h' : H} (hr : runOps cl os e h = some (e', h'))
    (r : EnvRel ρ e a.tmps) (R : Rel ρ h w) (F : Fresh ρ h h') (hnt : nt ≤ a.tmps.size) {Q : Exit → Act → World → Prop} (K : Behind ρ h w a e' h' (Q .normal)) : (Code.region id ops false).wp P Q a w := by
  refine wp_region ?_
  have := ops_sim hcl ops.toList 0 os e h e' h' ρ a w (fun j => by simp) hc hr r R F hnt K
  rw [List.range_eq_range']
  simpa using this

end
end Go.AM
