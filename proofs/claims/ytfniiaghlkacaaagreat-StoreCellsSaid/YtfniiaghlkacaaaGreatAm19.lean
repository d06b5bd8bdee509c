/- Code and calls: what the abstract machine comes to, the model comes to. -/
import Derived.Test.YtfniiaghlkacaaaGreatAm18d
import Derived.LoopN
namespace Go.AM
open Go
set_option linter.unusedSimpArgs false

def Ex.exit : Ex → Exit
  | .n => .normal
  | .x id => .exit id
  | .r => .ret

section
variable {P : Program} {ρ : Ren} {e : Env} {a : Act} {h : H} {w : World}

theorem exec_nx {cl : FuncId → List AV → H → Option (AV × H)} (hcl : CallsOk P cl) : ∀ (k : Nat) {c : C} {e : Env} {h : H} {x : Ex} {e' : Env} {h' : H}, exec cl k c e h = some (x, e', h') → h.nx ≤ h'.nx
  | 0, c, e, h, x, e', h', hr => by simp [exec] at hr
  | k + 1, c, e, h, x, e', h', hr => by
    cases c with
    | skip => simp [exec] at hr; obtain ⟨_, _, rfl⟩ := hr; exact Nat.le_refl _
    | reg draw ops ds =>
      simp only [exec] at hr
      split at hr
      · rename_i hh
        simp at hr; obtain ⟨_, _, rfl⟩ := hr
        cases draw with
        | true => exact runOpsD_nx hcl (by simpa using hh)
        | false => exact runOps_nx hcl (by simpa using hh)
      · cases hr
    | seq b c =>
      simp only [exec] at hr
      split at hr
      · rename_i hh
        exact Nat.le_trans (exec_nx hcl k hh) (exec_nx hcl k hr)
      · exact exec_nx hcl k hr
    | cond q b c =>
      simp only [exec] at hr
      split at hr
      · exact exec_nx hcl k hr
      · exact exec_nx hcl k hr
      · cases hr
    | blk id b =>
      simp only [exec] at hr
      split at hr
      · rename_i hh
        split at hr <;> (simp at hr; obtain ⟨_, _, rfl⟩ := hr; exact exec_nx hcl k hh)
      · exact exec_nx hcl k hr
    | loop b =>
      simp only [exec] at hr
      split at hr
      · rename_i hh
        exact Nat.le_trans (exec_nx hcl k hh) (exec_nx hcl k hr)
      · exact exec_nx hcl k hr
    | exit => simp [exec] at hr; obtain ⟨_, _, rfl⟩ := hr; exact Nat.le_refl _
    | ret => simp [exec] at hr; obtain ⟨_, _, rfl⟩ := hr; exact Nat.le_refl _

theorem drop_rel : ∀ (ds : List Nat) {e : Env} {tm : Array Value}, EnvRel ρ e tm → EnvRel ρ (drop e ds) tm
  | [], _, _, r => r
  | d :: ds, e, tm, r => drop_rel ds (fun n v hv => by
    rw [Tr.get_put] at hv
    split at hv
    · cases hv
    · exact r n v hv)

theorem Behind.mono {K K' : Act → World → Prop} {e' : Env} {h' : H} (b : Behind ρ h w a e' h' K) (hk : ∀ a w, K a w → K' a w) : Behind ρ h w a e' h' K' :=
  fun a' w' ρ' h1 h2 h3 h4 h5 => hk _ _ (b a' w' ρ' h1 h2 h3 h4 h5)

/-- What is owed behind code. -/
def Owed (ρ : Ren) (h : H) (w : World) (a : Act) (x : Ex) (e' : Env) (h' : H) (Q : Exit → Act → World → Prop) : Prop := Behind ρ h w a e' h' (Q x.exit)

theorem Behind.later {K : Act → World → Prop} {e2 : Env} {h1 h2 : H} {a1 : Act} {w1 : World} {ρ1 : Ren} (R1 : Rel ρ1 h1 w1) (S : Step ρ h w ρ1 h1 w1) (hs : a1.tmps.size = a.tmps.size) (hd : a1.defers = a.defers) (b : Behind ρ h w a e2 h2 K) : Behind ρ1 h1 w1 a1 e2 h2 K :=
  fun a' w' ρ' q1 q2 q3 q4 q5 => b a' w' ρ' q1 (S.trans R1 q2) q3 (q4.trans hs) (q5.trans hd)

theorem exec_sim {cl : FuncId → List AV → H → Option (AV × H)} (hcl : CallsOk P cl) {nt : Nat} : ∀ (k : Nat),
    (∀ (c : Code) (ac : C) (e : Env) (h : H) (x : Ex) (e' : Env) (h' : H) (ρ : Ren) (a : Act) (w : World) (Q : Exit → Act → World → Prop), comp P nt c = some (strip ac) → exec cl k ac e h = some (x, e', h') →
      EnvRel ρ e a.tmps → Rel ρ h w → Fresh ρ h h' → nt ≤ a.tmps.size → Owed ρ h w a x e' h' Q → c.wp P Q a w) ∧
    (∀ (c : Code) (ac : C) (e : Env) (h : H) (x : Ex) (e' : Env) (h' : H) (ρ : Ren) (a : Act) (w : World) (Q : Exit → Act → World → Prop), comp P nt c = some (strip ac) → exec cl k (.loop ac) e h = some (x, e', h') →
      EnvRel ρ e a.tmps → Rel ρ h w → Fresh ρ h h' → nt ≤ a.tmps.size → Owed ρ h w a x e' h' Q → Code.rounds P c Q k a w) := by
  intro k
  induction k with
  | zero => exact ⟨fun c ac e h x e' h' ρ a w Q _ hr => by simp [exec] at hr, fun c ac e h x e' h' ρ a w Q _ hr => by simp [exec] at hr⟩
  | succ k ih =>
    obtain ⟨ih1, ih2⟩ := ih
    have loops : ∀ (c : Code) (ac : C) (e : Env) (h : H) (x : Ex) (e' : Env) (h' : H) (ρ : Ren) (a : Act) (w : World) (Q : Exit → Act → World → Prop), comp P nt c = some (strip ac) → exec cl (k + 1) (.loop ac) e h = some (x, e', h') →
        EnvRel ρ e a.tmps → Rel ρ h w → Fresh ρ h h' → nt ≤ a.tmps.size → Owed ρ h w a x e' h' Q → Code.rounds P c Q (k + 1) a w := by
      intro c ac e h x e' h' ρ a w Q hc hr r R F hnt K
      rw [rounds_succ]
      simp only [exec] at hr
      split at hr
      · rename_i e1 h1 hh
        have n2 := exec_nx hcl k hr
        refine ih1 c ac e h .n e1 h1 ρ a w _ hc hh r R (F.left n2) hnt ?_
        intro a1 w1 ρ1 R1 S1 r1 s1 d1
        exact ih2 c ac e1 h1 x e' h' ρ1 a1 w1 Q hc hr r1 R1 (F.right S1) (by rw [s1]; exact hnt) (Behind.later R1 S1 s1 d1 K)
      · rename_i hno
        refine ih1 c ac e h x e' h' ρ a w _ hc hr r R F hnt ?_
        refine Behind.mono K fun a' w' q => ?_
        cases x with
        | n => exact absurd hr (hno e' h')
        | x id => exact q
        | r => exact q
    refine ⟨?_, loops⟩
    intro c ac e h x e' h' ρ a w Q hc hr r R F hnt K
    cases ac with
    | skip =>
      simp [exec] at hr
      obtain ⟨rfl, rfl, rfl⟩ := hr
      cases c with
      | skip => exact wp_skip (K a w ρ R (Step.refl ..) r rfl rfl)
      | region id ops draw => simp only [comp, strip] at hc; (repeat' (split at hc)) <;> cases hc
      | seq b c => simp only [comp, strip] at hc; (repeat' (split at hc)) <;> cases hc
      | cond q b c => simp only [comp, strip] at hc; (repeat' (split at hc)) <;> cases hc
      | block id b => simp only [comp, strip, Option.map_eq_some_iff] at hc; obtain ⟨_, _, hc⟩ := hc; cases hc
      | loop b => simp only [comp, strip, Option.map_eq_some_iff] at hc; obtain ⟨_, _, hc⟩ := hc; cases hc
      | _ => simp [comp, strip] at hc
    | reg draw os ds =>
      simp only [exec] at hr
      split at hr
      case h_2 => cases hr
      rename_i e1 h1 hh
      simp at hr
      obtain ⟨rfl, rfl, rfl⟩ := hr
      have K' : Behind ρ h w a e1 h1 (Q .normal) := fun a' w' ρ' q1 q2 q3 q4 q5 => K a' w' ρ' q1 q2 (drop_rel ds q3) q4 q5
      cases c with
      | region id ops draw' =>
        simp only [comp, strip] at hc
        split at hc
        case h_2 => cases hc
        rename_i os' hos
        split at hc
        · split at hc
          · rename_i hd hck
            cases hc
            simp only [Bool.and_eq_true] at hck
            have hd' : draw' = true := hd
            subst hd'
            rw [if_pos rfl, CheckFast.beforeF_eq] at hos
            exact regionD_sim hcl hos hck.1 hck.2 (by simpa using hh) r R F hnt K'
          · cases hc
        · rename_i hd
          cases hc
          have hd' : draw' = false := by simpa using hd
          subst hd'
          exact region_sim hcl hos (by simpa using hh) r R F hnt K'
      | seq b c => simp only [comp, strip] at hc; (repeat' (split at hc)) <;> cases hc
      | cond q b c => simp only [comp, strip] at hc; (repeat' (split at hc)) <;> cases hc
      | block id b => simp only [comp, strip, Option.map_eq_some_iff] at hc; obtain ⟨_, _, hc⟩ := hc; cases hc
      | loop b => simp only [comp, strip, Option.map_eq_some_iff] at hc; obtain ⟨_, _, hc⟩ := hc; cases hc
      | _ => simp [comp, strip] at hc
    | seq ab ac =>
      cases c with
      | seq b c =>
        simp only [comp, strip] at hc
        split at hc
        case h_2 => cases hc
        rename_i b' c' hb hc'
        cases hc
        simp only [exec] at hr
        refine wp_seq ?_
        split at hr
        · rename_i e1 h1 hh
          have n2 := exec_nx hcl k hr
          refine ih1 b ab e h .n e1 h1 ρ a w _ hb hh r R (F.left n2) hnt ?_
          intro a1 w1 ρ1 R1 S1 r1 s1 d1
          exact ih1 c ac e1 h1 x e' h' ρ1 a1 w1 Q hc' hr r1 R1 (F.right S1) (by rw [s1]; exact hnt) (Behind.later R1 S1 s1 d1 K)
        · rename_i hno
          refine ih1 b ab e h x e' h' ρ a w _ hb hr r R F hnt ?_
          refine Behind.mono K fun a' w' q => ?_
          cases x with
          | n => exact absurd hr (hno e' h')
          | x id => exact q
          | r => exact q
      | region id ops draw => simp only [comp, strip] at hc; (repeat' (split at hc)) <;> cases hc
      | cond q b c => simp only [comp, strip] at hc; (repeat' (split at hc)) <;> cases hc
      | block id b => simp only [comp, strip, Option.map_eq_some_iff] at hc; obtain ⟨_, _, hc⟩ := hc; cases hc
      | loop b => simp only [comp, strip, Option.map_eq_some_iff] at hc; obtain ⟨_, _, hc⟩ := hc; cases hc
      | _ => simp [comp, strip] at hc
    | cond aq ab ac =>
      cases c with
      | cond q b c =>
        simp only [comp, strip] at hc
        split at hc
        case h_2 => cases hc
        rename_i q' b' c' hq hb hc'
        cases hc
        simp only [exec] at hr
        split at hr
        · rename_i hv
          exact wp_cond (t := true) (ev_sim r hq hv) (ih1 b ab e h x e' h' ρ a w Q hb hr r R F hnt K)
        · rename_i hv
          exact wp_cond (t := false) (ev_sim r hq hv) (ih1 c ac e h x e' h' ρ a w Q hc' hr r R F hnt K)
        · cases hr
      | seq b c => simp only [comp, strip] at hc; (repeat' (split at hc)) <;> cases hc
      | region id ops draw => simp only [comp, strip] at hc; (repeat' (split at hc)) <;> cases hc
      | block id b => simp only [comp, strip, Option.map_eq_some_iff] at hc; obtain ⟨_, _, hc⟩ := hc; cases hc
      | loop b => simp only [comp, strip, Option.map_eq_some_iff] at hc; obtain ⟨_, _, hc⟩ := hc; cases hc
      | _ => simp [comp, strip] at hc
    | blk id ab =>
      cases c with
      | block id' b =>
        simp only [comp, strip, Option.map_eq_some_iff] at hc
        obtain ⟨b', hb, hc⟩ := hc
        cases hc
        simp only [exec] at hr
        refine wp_block ?_
        split at hr
        · rename_i i e1 h1 hh
          refine ih1 b ab e h (.x i) e1 h1 ρ a w _ hb hh r R ?_ hnt ?_
          · split at hr <;> (simp at hr; obtain ⟨_, _, rfl⟩ := hr; exact F)
          · split at hr
            · rename_i hi
              simp at hr; obtain ⟨rfl, rfl, rfl⟩ := hr
              refine Behind.mono K fun a' w' q => ?_
              simp only [Ex.exit, Exit.inBlock, hi, if_true]
              exact q
            · rename_i hi
              simp at hr; obtain ⟨rfl, rfl, rfl⟩ := hr
              refine Behind.mono K fun a' w' q => ?_
              simp only [Ex.exit, Exit.inBlock, hi, if_false]
              exact q
        · rename_i hno
          refine ih1 b ab e h x e' h' ρ a w _ hb hr r R F hnt ?_
          refine Behind.mono K fun a' w' q => ?_
          cases x with
          | n => exact q
          | x i => exact absurd hr (hno i e' h')
          | r => exact q
      | seq b c => simp only [comp, strip] at hc; (repeat' (split at hc)) <;> cases hc
      | region id ops draw => simp only [comp, strip] at hc; (repeat' (split at hc)) <;> cases hc
      | cond q b c => simp only [comp, strip] at hc; (repeat' (split at hc)) <;> cases hc
      | loop b => simp only [comp, strip, Option.map_eq_some_iff] at hc; obtain ⟨_, _, hc⟩ := hc; cases hc
      | _ => simp [comp, strip] at hc
    | loop ab =>
      cases c with
      | loop b =>
        simp only [comp, strip, Option.map_eq_some_iff] at hc
        obtain ⟨b', hb, hc⟩ := hc
        cases hc
        exact wp_loop_rounds (k + 1) (loops b ab e h x e' h' ρ a w Q hb hr r R F hnt K)
      | seq b c => simp only [comp, strip] at hc; (repeat' (split at hc)) <;> cases hc
      | region id ops draw => simp only [comp, strip] at hc; (repeat' (split at hc)) <;> cases hc
      | cond q b c => simp only [comp, strip] at hc; (repeat' (split at hc)) <;> cases hc
      | block id b => simp only [comp, strip, Option.map_eq_some_iff] at hc; obtain ⟨_, _, hc⟩ := hc; cases hc
      | _ => simp [comp, strip] at hc
    | exit id =>
      simp [exec] at hr
      obtain ⟨rfl, rfl, rfl⟩ := hr
      cases c with
      | exit id' =>
        simp only [comp, strip] at hc
        cases hc
        exact wp_exit (K a w ρ R (Step.refl ..) r rfl rfl)
      | region id ops draw => simp only [comp, strip] at hc; (repeat' (split at hc)) <;> cases hc
      | seq b c => simp only [comp, strip] at hc; (repeat' (split at hc)) <;> cases hc
      | cond q b c => simp only [comp, strip] at hc; (repeat' (split at hc)) <;> cases hc
      | block id b => simp only [comp, strip, Option.map_eq_some_iff] at hc; obtain ⟨_, _, hc⟩ := hc; cases hc
      | loop b => simp only [comp, strip, Option.map_eq_some_iff] at hc; obtain ⟨_, _, hc⟩ := hc; cases hc
      | _ => simp [comp, strip] at hc
    | ret =>
      simp [exec] at hr
      obtain ⟨rfl, rfl, rfl⟩ := hr
      cases c with
      | ret => exact wp_ret (K a w ρ R (Step.refl ..) r rfl rfl)
      | region id ops draw => simp only [comp, strip] at hc; (repeat' (split at hc)) <;> cases hc
      | seq b c => simp only [comp, strip] at hc; (repeat' (split at hc)) <;> cases hc
      | cond q b c => simp only [comp, strip] at hc; (repeat' (split at hc)) <;> cases hc
      | block id b => simp only [comp, strip, Option.map_eq_some_iff] at hc; obtain ⟨_, _, hc⟩ := hc; cases hc
      | loop b => simp only [comp, strip, Option.map_eq_some_iff] at hc; obtain ⟨_, _, hc⟩ := hc; cases hc
      | _ => simp [comp, strip] at hc

/-! ### calls -/

def resOf (tm : Array Value) : ResultVar → Sem Value
  | .tmp t => pure (tm.getD t undef)
  | .cell b t => do loadVar t (← Go.asAddr (tm.getD b undef))

theorem res_sim (r : EnvRel ρ e a.tmps) (R : Rel ρ h w) : ∀ {rs : List ResultVar} {rs' : List RV} {vs : List AV}, cRes P rs = some rs' → results h e rs' = some vs →
    ∃ xs : List Value, (rs.mapM (resOf a.tmps)).run P w = .ok xs w ∧ All2 (VRel ρ) vs xs
  | [], rs', vs, hc, hv => by
    cases hc; cases hv
    exact ⟨[], by simp, .nil⟩
  | .tmp t :: rs, rs', vs, hc, hv => by
    simp only [cRes, Option.map_eq_some_iff] at hc
    obtain ⟨r2, hc, rfl⟩ := hc
    simp only [results] at hv
    split at hv
    case h_2 => cases hv
    rename_i v vs' h1 h2
    cases hv
    obtain ⟨xs, hx, q⟩ := res_sim r R hc h2
    obtain ⟨x, hx1, hq1⟩ := r t v h1
    refine ⟨x :: xs, ?_, .cons hq1 q⟩
    rw [List.mapM_cons]
    simp only [resOf, Sem.run_bind, Sem.run_pure, Result.andThen_ok, hx]
    rw [Array.getD_eq_getD_getElem?, hx1]
    rfl
  | .cell b t :: rs, rs', vs, hc, hv => by
    simp only [cRes] at hc
    split at hc
    case h_2 => cases hc
    rename_i n g r2 hn hg hr2
    split at hc
    case isFalse => cases hc
    rename_i h1'
    cases hc
    simp only [results] at hv
    split at hv
    case h_2 => cases hv
    rename_i v vs' h1 h2
    cases hv
    obtain ⟨xs, hx, q⟩ := res_sim r R hr2 h2
    simp only [readOp] at h1
    split at h1
    case h_2 => cases h1
    rename_i i o hb
    split at h1
    case h_2 => cases h1
    rename_i cs hcs
    obtain ⟨y, hy, L, hL, rfl⟩ := r b _ hb
    obtain ⟨z, hz, hq⟩ := load_run hg hn h1' R hcs hL h1
    refine ⟨z :: xs, ?_, .cons hq q⟩
    rw [List.mapM_cons]
    have hgd : a.tmps.getD b undef = .pointer (some ⟨L.b, L.s + o, none⟩) := by rw [Array.getD_eq_getD_getElem?, hy]; rfl
    have hres : (resOf a.tmps (.cell b t)).run P w = .ok z w := by
      simp only [resOf, Sem.run_bind, hgd, Go.asAddr, Sem.run_pure, Result.andThen_ok, hz]
    simp only [Sem.run_bind, hres, Sem.run_pure, Result.andThen_ok, hx]

theorem tups_rel : ∀ {vs : List AV} {ts : List (Bool × List SV)} {xs : List Value}, tups vs = some ts → All2 (VRel ρ) vs xs → All2 (TRel ρ) ts xs
  | [], ts, xs, h, q => by cases h; cases q; exact .nil
  | .s v :: vs, ts, xs, h, q => by
    simp only [tups, Option.map_eq_some_iff] at h
    obtain ⟨ts', h, rfl⟩ := h
    cases q with
    | cons q1 q2 => exact .cons ⟨v, rfl, q1⟩ (tups_rel h q2)
  | .agg cs :: vs, ts, xs, h, q => by
    simp only [tups, Option.map_eq_some_iff] at h
    obtain ⟨ts', h, rfl⟩ := h
    cases q with
    | cons q1 q2 => exact .cons q1 (tups_rel h q2)
  | .tup _ :: vs, ts, xs, h, q => by cases h

theorem tupled_rel {vs : List AV} {v : AV} {xs : List Value} (h : tupled vs = some v) (q : All2 (VRel ρ) vs xs) : VRel ρ v (if h : xs.toArray.size = 1 then xs.toArray[0] else .tuple xs.toArray) := by
  unfold tupled at h
  split at h
  · cases h
    obtain ⟨x, rfl, hx⟩ := q.one_inv
    exact hx
  · rename_i hne
    simp only [Option.map_eq_some_iff] at h
    obtain ⟨ts, ht, rfl⟩ := h
    have hl := q.length
    have : ¬ xs.toArray.size = 1 := by
      intro h1
      simp at h1
      rw [h1] at hl
      match vs, hl with
      | [u], _ => exact hne u rfl
    rw [dif_neg this]
    exact ⟨_, rfl, by simpa using tups_rel ht q⟩

theorem setArgs_rel : ∀ {vs : List AV} {xs : List Value} (i : Nat) {e : Env} {tm : Array Value}, All2 (VRel ρ) vs xs → EnvRel ρ e tm → (∀ j x, xs[j]? = some x → tm[i + j]? = some x) → EnvRel ρ (setArgs e i vs) tm
  | [], xs, i, e, tm, q, r, _ => by cases q; exact r
  | v :: vs, xs, i, e, tm, q, r, hx => by
    cases q with
    | cons q1 q2 =>
      rename_i x xs
      refine setArgs_rel (i + 1) q2 ?_ fun j y hy => by have := hx (j + 1) y (by simpa using hy); rw [← this]; congr 1; omega
      intro n u hu
      rw [Tr.get_put] at hu
      split at hu
      · rename_i hn; subst hn
        cases hu
        exact ⟨x, by simpa using hx 0 x rfl, q1⟩
      · exact r n u hu

/-- A function that is given to the abstract machine as such. -/
def PrimOk (P : Program) (f : FuncId) (p : List AV → H → Option (AV × H)) : Prop :=
  ∀ vs h r h', p vs h = some (r, h') → h.nx ≤ h'.nx ∧ ∀ ρ w xs, Rel ρ h w → All2 (VRel ρ) vs xs → Fresh ρ h h' →
    ((callFunc f xs.toArray).run P w = .ok (.enter f xs.toArray) w ∧ Calls P f xs.toArray w fun e w' => ∃ x, e = .returned x ∧ Post ρ h w r h' x w') ∨
    (∃ x w', (callFunc f xs.toArray).run P w = .ok (.value x) w' ∧ Post ρ h w r h' x w')

/-- The abstract machine's functions are the program's. -/
def TabOk (P : Program) (tab : FuncId → Option Entry) : Prop :=
  ∀ f, (∀ p, tab f = some (.prim p) → PrimOk P f p) ∧
    ∀ fn, tab f = some (.code fn) → ∃ g c, P.funcs[f]? = some g ∧ g.body = some c ∧ (g.name == "runtime.NumGoroutine") = false ∧ comp P g.ntmps c = some (strip fn.body) ∧ cRes P g.results.toList = some fn.results

theorem call_ok {tab : FuncId → Option Entry} (ht : TabOk P tab) : ∀ k, CallsOk P (call tab k)
  | 0 => fun f vs h r h' hr => by simp [call] at hr
  | k + 1 => fun f vs h r h' hr => by
    have ih := call_ok ht k
    simp only [call] at hr
    split at hr
    · rename_i p hp
      exact (ht f).1 p hp vs h r h' hr
    · rename_i fn hf
      obtain ⟨g, c, hg, hb, hnm, hc, hres⟩ := (ht f).2 fn hf
      have fin : ∀ (x : Ex) (e1 : Env) (h1 : H), (x = .n ∨ x = .r) → exec (call tab k) k fn.body (setArgs (Tr.perf fn.depth) 0 vs) h = some (x, e1, h1) → (match (results h1 e1 fn.results).bind tupled with | some v => some (v, h1) | none => none) = some (r, h') →
          h.nx ≤ h'.nx ∧ ∀ ρ w xs, Rel ρ h w → All2 (VRel ρ) vs xs → Fresh ρ h h' →
            ((callFunc f xs.toArray).run P w = .ok (.enter f xs.toArray) w ∧ Calls P f xs.toArray w fun e w' => ∃ x, e = .returned x ∧ Post ρ h w r h' x w') ∨
            (∃ x w', (callFunc f xs.toArray).run P w = .ok (.value x) w' ∧ Post ρ h w r h' x w') := by
        intro x e1 h1 hx hex hv
        split at hv
        case h_2 => cases hv
        rename_i v hv1
        cases hv
        simp only [Option.bind_eq_some_iff] at hv1
        obtain ⟨us, hus, htup⟩ := hv1
        refine ⟨exec_nx ih k hex, fun ρ w xs R hxs F => .inl ⟨?_, ?_⟩⟩
        · simp only [callFunc, Sem.run_bind, run_program, Result.andThen_ok, hg, hnm, Bool.false_eq_true, if_false, hb, Option.isNone_some, Sem.run_pure]
        · refine calls_of_wp hg hb ?_
          refine (exec_sim ih (nt := g.ntmps) k).1 c fn.body (setArgs (Tr.perf fn.depth) 0 vs) h x e1 _ ρ _ w _ hc hex ?_ R F (by simp; omega) ?_
          · refine setArgs_rel 0 hxs (fun n u hu => by rw [Tr.get_perf] at hu; cases hu) fun j y hy => ?_
            have hj : j < xs.length := by
              rcases Nat.lt_or_ge j xs.length with q | q
              · exact q
              · rw [List.getElem?_eq_none q] at hy; cases hy
            rw [Nat.zero_add, Array.getElem?_append, if_pos (by simpa using hj)]
            simpa using hy
          · intro a' w' ρ' R' S' r' _ hd'
            obtain ⟨ys, hys, q⟩ := res_sim (P := P) r' R' hres hus
            have hrun : (Go.results g a'.tmps).run P w' = .ok (if h : ys.toArray.size = 1 then ys.toArray[0] else .tuple ys.toArray) w' := by
              show (do let vs ← g.results.mapM (resOf a'.tmps); pure (if h : vs.size = 1 then vs[0] else .tuple vs) : Sem Value).run P w' = _
              rw [Sem.run_bind, Array.mapM_eq_mapM_toList, Sem.run_map, hys]
              rfl
            rcases hx with rfl | rfl
            · exact ⟨hd', _, hrun, _, rfl, ρ', R', S', tupled_rel htup q⟩
            · exact ⟨hd', _, hrun, _, rfl, ρ', R', S', tupled_rel htup q⟩
      split at hr
      · rename_i e1 h1 hex; exact fin .n e1 h1 (.inl rfl) hex hr
      · rename_i e1 h1 hex; exact fin .r e1 h1 (.inr rfl) hex hr
      · cases hr
    · cases hr

end
end Go.AM
