/- One operation in the model's calculus; a row of operations in the text's order. -/
import Derived.Test.YtfniiaghlkacaaaGreatAm15
namespace Go.AM
open Go
set_option linter.unusedSimpArgs false

theorem Tr.get_put' {α : Type} (t : Tr α) (n m : Nat) (x : Option α) : (t.put n x).get m = if m = n then x else t.get m := Tr.get_put t n m x

section
variable {P : Program} {ρ : Ren} {e : Env} {a : Act} {h : H} {w : World}

theorem env_put (r : EnvRel ρ e a.tmps) {d : Nat} (hd : d < a.tmps.size) {v : Option AV} {x : Value} (hv : ∀ u, v = some u → VRel ρ u x) : EnvRel ρ (e.put d v) (a.tmps.setIfInBounds d x) := by
  intro n u hu
  rw [Tr.get_put] at hu
  rw [Array.getElem?_setIfInBounds]
  by_cases hn : n = d
  · subst hn
    rw [if_pos rfl] at hu ⊢
    rw [if_pos hd]
    exact ⟨x, rfl, hv u hu⟩
  · rw [if_neg hn] at hu
    rw [if_neg (Ne.symm hn)]
    exact r n u hu

theorem env_setD (r : EnvRel ρ e a.tmps) {d : Option Nat} (hd : ∀ n, d = some n → n < a.tmps.size) {v : Option AV} {x : Value} (hv : ∀ u, v = some u → VRel ρ u x) : EnvRel ρ (setD e d v) (a.put d x).tmps := by
  cases d with
  | none => exact r
  | some n => exact env_put r (hd n rfl) hv

theorem put_size (d : Option Nat) (x : Value) : (a.put d x).tmps.size = a.tmps.size := by
  cases d <;> simp [Act.put]

theorem put_defers (d : Option Nat) (x : Value) : (a.put d x).defers = a.defers := by
  cases d <;> rfl

/-- What a call comes to. -/
def Post (ρ : Ren) (h : H) (w : World) (r : AV) (h' : H) (x : Value) (w' : World) : Prop := ∃ ρ', Rel ρ' h' w' ∧ Step ρ h w ρ' h' w' ∧ VRel ρ' r x

/-- The calls that the abstract machine makes are those of the model. -/
def CallsOk (P : Program) (cl : FuncId → List AV → H → Option (AV × H)) : Prop :=
  ∀ f vs h r h', cl f vs h = some (r, h') → h.nx ≤ h'.nx ∧ ∀ ρ w xs, Rel ρ h w → All2 (VRel ρ) vs xs → Fresh ρ h h' →
    ((callFunc f xs.toArray).run P w = .ok (.enter f xs.toArray) w ∧ Calls P f xs.toArray w fun e w' => ∃ x, e = .returned x ∧ Post ρ h w r h' x w') ∨
    (∃ x w', (callFunc f xs.toArray).run P w = .ok (.value x) w' ∧ Post ρ h w r h' x w')

/-- What is owed behind an operation. -/
def After (ρ : Ren) (h : H) (w : World) (a : Act) (d : Option Tmp) (v : Option AV) (h' : H) (next : Act → World → Prop) : Prop :=
  ∀ x w' ρ', Rel ρ' h' w' → Step ρ h w ρ' h' w' → (∀ u, v = some u → VRel ρ' u x) → next (a.put d x) w'

theorem evs_length : ∀ {xs : List X} {vs : List AV}, evs e xs = some vs → vs.length = xs.length
  | [], vs, h => by cases h; rfl
  | x :: xs, vs, h => by
    simp only [evs] at h
    split at h
    · split at h
      · rename_i h2; cases h; simp [evs_length h2]
      · cases h
    · cases h

theorem ofAddr_rel {as : List (Nat × Nat)} {xs : List Value} (h : All2 (PRel ρ) as xs) : All2 (VRel ρ) (as.map ofAddr) xs := by
  rw [All2.map_left]
  exact h.mono fun _ _ q => q

theorem step_nx {cl : FuncId → List AV → H → Option (AV × H)} (hcl : CallsOk P cl) {op : Op} {v : Option AV} {h' : H} (hs : step1 cl e h op = some (v, h')) : h.nx ≤ h'.nx := by
  unfold step1 at hs
  split at hs
  · split at hs
    · cases hs; exact Nat.le_refl _
    · cases hs
  · split at hs
    · cases hs; exact Nat.le_refl _
    · cases hs
  · split at hs
    · cases hs; simp
    · cases hs
  · have app : ∀ {t sz bytes : Nat} {s u : AV} {xs : List SV} {n : Nat} {h' : H}, appendTo h t sz bytes s xs n = some (u, h') → h.nx ≤ h'.nx := by
      intro t sz bytes s u xs n h' hh
      unfold appendTo at hh
      (repeat' (split at hh)) <;> first | (cases hh; done) | (cases hh; simp; done)
    unfold actOp at hs
    split at hs
    · (repeat' (split at hs)) <;> first | (cases hs; done) | (cases hs; simp; done)
    · (repeat' (split at hs)) <;> first | (cases hs; done) | (cases hs; simp; done)
    · split at hs
      · split at hs
        · split at hs
          · rename_i hh; cases hs; exact app hh
          · cases hs
        · cases hs
      · cases hs
    · split at hs
      · split at hs
        · split at hs
          · rename_i hh; cases hs; exact app hh
          · cases hs
        · cases hs
      · cases hs
    · split at hs
      · split at hs
        · split at hs
          · cases hs
          · split at hs
            · cases hs; exact Nat.le_refl _
            · rename_i i o
              by_cases hmin : ∀ n : Nat, n = n
              · revert hs
                simp only
                intro hs
                split at hs
                · cases hs; exact Nat.le_refl _
                · split at hs
                  · split at hs
                    · cases hs; simp
                    · cases hs
                  · cases hs
              · exact absurd (fun _ => rfl) hmin
        · cases hs
      · cases hs
    · (repeat' (split at hs)) <;> first | (cases hs; done) | (cases hs; simp; done)
    · split at hs
      · split at hs
        · rename_i hh; cases hs; exact (hcl _ _ _ _ _ hh).1
        · cases hs
      · cases hs
    · split at hs
      · split at hs
        · rename_i hh; cases hs; exact (hcl _ _ _ _ _ hh).1
        · cases hs
      · cases hs
    · cases hs

theorem call_upon {cl : FuncId → List AV → H → Option (AV × H)} (hcl : CallsOk P cl) (R : Rel ρ h w) {f : FuncId} {vs : List AV} {u : AV} {h' : H} (hc : cl f vs h = some (u, h')) {xs : List Value} (hxs : All2 (VRel ρ) vs xs) (F : Fresh ρ h h')
    {o : Oper} {next : Act → World → Prop} {Q : Exit → Act → World → Prop} (A : After ρ h w a o.dst (some u) h' next) (hrun : (execOp a.eval o).run P w = (callFunc f xs.toArray).run P w) : o.wp P a w next Q := by
  unfold Oper.wp
  rw [hrun]
  rcases (hcl _ _ _ _ _ hc).2 ρ w xs R hxs F with ⟨h1, h2⟩ | ⟨x, w', h1, ρ', p1, p2, p3⟩
  · rw [h1, Oper.upon_enter]
    refine h2.mono ?_
    rintro _ w' ⟨x, rfl, ρ', p1, p2, p3⟩
    exact A x w' ρ' p1 p2 fun _ hu => by cases hu; exact p3
  · rw [h1, Oper.upon_value]
    exact A x w' ρ' p1 p2 fun _ hu => by cases hu; exact p3

/-- One operation. -/
theorem oper_sim {cl : FuncId → List AV → H → Option (AV × H)} (hcl : CallsOk P cl) (r : EnvRel ρ e a.tmps) (R : Rel ρ h w) {o : Oper} {op : Op} (hc : cOp P o.op = some op) {v : Option AV} {h' : H} (hs : step1 cl e h op = some (v, h')) (F : Fresh ρ h h')
    {next : Act → World → Prop} {Q : Exit → Act → World → Prop} (A : After ρ h w a o.dst v h' next) : o.wp P a w next Q := by
  obtain ⟨dst, g, ty, pos, aft, gd⟩ := o
  simp only at hc A
  have hs0 := hs
  unfold step1 at hs
  split at hs
  · rename_i hk
    split at hs
    case h_2 => cases hs
    rename_i u hu
    cases hs
    obtain ⟨x, hx, q⟩ := pure_sim r hc hk hu w dst ty pos aft gd
    unfold Oper.wp
    rw [hx, Oper.upon_value]
    exact A x w ρ R (Step.refl ..) fun _ hu => by cases hu; exact q
  · rename_i hk
    split at hs
    case h_2 => cases hs
    rename_i u hu
    cases hs
    obtain ⟨x, hx, q⟩ := read_sim r R hc hk hu dst ty pos aft gd
    unfold Oper.wp
    rw [hx, Oper.upon_value]
    exact A x w ρ R (Step.refl ..) fun _ hu => by cases hu; exact q
  · rename_i hk
    split at hs
    case h_2 => cases hs
    rename_i ob f hu
    cases hs
    obtain ⟨x, w', L, hx, m⟩ := make_sim (w := w) r hc hk hu dst ty pos aft gd
    obtain ⟨r1, r2, r3⟩ := new_rel R (F _ (Nat.le_refl _) (by simp)) m
    unfold Oper.wp
    rw [hx, Oper.upon_value]
    exact A x w' _ r1 r2 fun _ hu => by cases hu; exact r3
  · rename_i hk
    cases hcall : op.isCall with
    | false =>
      obtain ⟨n, w', ρ', hx, r1, r2, q⟩ := act_sim r R hc hk hcall (fun hlt => F _ (Nat.le_refl _) hlt) hs dst ty pos aft gd
      unfold Oper.wp
      rw [hx]
      cases v with
      | none =>
        rcases q with rfl | ⟨x, rfl⟩
        · rw [Oper.upon_skip]; exact A _ w' ρ' r1 r2 fun _ hu => by cases hu
        · rw [Oper.upon_value]; exact A x w' ρ' r1 r2 fun _ hu => by cases hu
      | some u =>
        obtain ⟨x, rfl, q⟩ := q
        rw [Oper.upon_value]
        exact A x w' ρ' r1 r2 fun _ hu => by cases hu; exact q
    | true =>
      -- a call
      cases g
      case call c =>
        obtain ⟨callee, args, ts⟩ := c
        cases callee with
        | builtin b =>
          exfalso
          simp only [cOp] at hc
          unfold cBuiltin at hc
          (repeat' (split at hc)) <;> first | (cases hc; done) | (cases hc; cases hcall; done) | (simp only [Option.map_eq_some_iff] at hc; obtain ⟨_, _, rfl⟩ := hc; cases hcall; done)
        | invoke => cases hc
        | value f =>
          have viaV : ∀ {x : X} {xs : List X}, cX f = some x → cXs args.toList = some xs → op = .callv x xs → (Oper.mk dst (.call { callee := .value f, args, argTypes := ts }) ty pos aft gd).wp P a w next Q := by
            rintro x xs hx hxs rfl
            simp only [actOp] at hs
            split at hs
            case h_2 => cases hs
            rename_i fid first caps vs hf hvs
            split at hs
            case h_2 => cases hs
            rename_i u h'' hcc
            cases hs
            obtain ⟨a', b', he, q1, q2⟩ := ev_sim r hx hf
            have hargs := evs_sim r hxs hvs
            refine call_upon hcl R hcc (xs := a'.toList ++ args.toList.map a.eval ++ b'.toList) (((ofAddr_rel q1).append hargs).append (ofAddr_rel q2)) F A ?_
            simp only [execOp, Sem.run_bind, resolve, he, Deferred.ofValue, Sem.run_pure, Result.andThen_ok, invoke]
            congr 2
            apply Array.ext'
            simp
          have viaF : ∀ {fid : FuncId} {xs : List X}, f = .func fid → cXs args.toList = some xs → op = .call fid xs → (Oper.mk dst (.call { callee := .value f, args, argTypes := ts }) ty pos aft gd).wp P a w next Q := by
            rintro fid xs rfl hxs rfl
            simp only [actOp] at hs
            split at hs
            case h_2 => cases hs
            rename_i vs hvs
            split at hs
            case h_2 => cases hs
            rename_i u h'' hcc
            cases hs
            have hargs := evs_sim r hxs hvs
            refine call_upon hcl R hcc (xs := args.toList.map a.eval) hargs F A ?_
            simp only [execOp, Sem.run_bind, resolve, Act.eval, Deferred.ofValue, Sem.run_pure, Result.andThen_ok, invoke]
            congr 2
            apply Array.ext'
            simp
          cases f with
          | func fid =>
            simp only [cOp, Option.map_eq_some_iff] at hc
            obtain ⟨xs, hxs, rfl⟩ := hc
            exact viaF rfl hxs rfl
          | tmp n =>
            simp only [cOp] at hc
            split at hc
            · rename_i h1 h2; cases hc; exact viaV h1 h2 rfl
            · cases hc
          | const n =>
            simp only [cOp] at hc
            split at hc
            · rename_i h1 h2; cases hc; exact viaV h1 h2 rfl
            · cases hc
          | global n =>
            simp only [cOp] at hc
            split at hc
            · rename_i h1 h2; cases hc; exact viaV h1 h2 rfl
            · cases hc
      case makeMap t q => cases q with
        | none => cases hc; cases hcall
        | some => cases hc
      case makeFunc f _ _ =>
        exfalso
        cases f <;> simp only [cOp] at hc <;> first | (cases hc; done) | (split at hc <;> cases hc; cases hcall)
      case binOp =>
        exfalso
        simp only [cOp, cEq] at hc
        (repeat' (split at hc)) <;> first | (cases hc; done) | (cases hc; cases hcall; done)
      all_goals first
        | (cases hc; done)
        | (exfalso; simp only [cOp, Option.map_eq_some_iff] at hc; obtain ⟨_, _, rfl⟩ := hc; cases hcall; done)
        | (exfalso; simp only [cOp] at hc; (repeat' (split at hc)) <;> first | (cases hc; done) | (cases hc; cases hcall; done) | (simp only [Option.map_eq_some_iff] at hc; obtain ⟨_, _, rfl⟩ := hc; cases hcall; done))

end
end Go.AM
