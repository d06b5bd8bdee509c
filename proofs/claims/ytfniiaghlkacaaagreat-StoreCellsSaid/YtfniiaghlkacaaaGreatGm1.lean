/- More fuel changes nothing; calls without fuel. -/
import Derived.Test.YtfniiaghlkacaaaGreatGm0
namespace Go.AM.G
open Go Go.AM
set_option linter.unusedSimpArgs false

def Le (cl cl' : Cl) : Prop := ∀ f vs h r, cl f vs h = some r → cl' f vs h = some r

theorem actOp_mono {cl cl' : Cl} (hc : Le cl cl') {e : Env} {h : H} {op : Op} {r : Option AV × H} (hr : actOp cl e h op = some r) : actOp cl' e h op = some r := by
  cases op
  case call f args =>
    simp only [actOp] at hr ⊢
    cases hv : evs e args with
    | none => rw [hv] at hr; cases hr
    | some vs =>
      rw [hv] at hr
      simp only at hr ⊢
      cases hq : cl f vs h with
      | none => rw [hq] at hr; cases hr
      | some q => rw [hc _ _ _ _ hq]; rw [hq] at hr; exact hr
  case callv f args =>
    simp only [actOp] at hr ⊢
    split at hr
    · rename_i f' first caps vs h1 h2
      cases hq : cl f' (first.map ofAddr ++ vs ++ caps.map ofAddr) h with
      | none => rw [hq] at hr; cases hr
      | some q => rw [hc _ _ _ _ hq]; rw [hq] at hr; exact hr
    · cases hr
  all_goals exact hr

theorem step1_mono {cl cl' : Cl} (hc : Le cl cl') {e : Env} {h : H} {op : Op} {r : Option AV × H} (hr : step1 cl e h op = some r) : step1 cl' e h op = some r := by
  unfold step1 at hr ⊢
  split at hr
  · exact hr
  · exact hr
  · exact hr
  · exact actOp_mono hc hr

theorem runOps_mono {cl cl' : Cl} (hc : Le cl cl') : ∀ {os : List Or} {e : Env} {h : H} {r : Env × H}, runOps cl os e h = some r → runOps cl' os e h = some r
  | [], _, _, _, hr => hr
  | o :: os, e, h, r, hr => by
    simp only [runOps] at hr ⊢
    split at hr
    · split at hr
      · rename_i v h' hs
        rw [step1_mono hc hs]
        exact runOps_mono hc hr
      · cases hr
    · exact runOps_mono hc hr
    · cases hr

theorem runOpsD_mono {cl cl' : Cl} (hc : Le cl cl') : ∀ {os : List Or} {i : Nat} {rds : List Rd} {past : List (Nat × H)} {e : Env} {h : H} {r : Env × H}, runOpsD cl os i rds past e h = some r → runOpsD cl' os i rds past e h = some r
  | [], _, _, _, _, _, _, hr => hr
  | o :: os, i, rds, past, e, h, r, hr => by
    simp only [runOpsD] at hr ⊢
    cases hw : wants e o.guard with
    | none => rw [hw] at hr; cases hr
    | some b =>
      rw [hw] at hr
      cases b with
      | false => exact runOpsD_mono hc hr
      | true =>
        simp only at hr ⊢
        cases hs : step1 cl e h o.op with
        | none => rw [hs] at hr; cases hr
        | some q =>
          obtain ⟨v, h'⟩ := q
          rw [hs] at hr
          rw [step1_mono hc hs]
          simp only at hr ⊢
          split at hr
          · split at hr
            · rename_i h2
              simp only [h2, if_true]
              exact runOpsD_mono hc hr
            · cases hr
          · split at hr
            · rename_i h2
              simp only [h2, if_true]
              exact runOpsD_mono hc hr
            · cases hr
          · exact runOpsD_mono hc hr

theorem exec_mono {cl cl' : Cl} (hc : Le cl cl') : ∀ {k k' : Nat} {c : C} {e : Env} {h : H} {r : Ex × Env × H}, k ≤ k' → exec cl k c e h = some r → exec cl' k' c e h = some r
  | 0, _, _, _, _, _, _, hr => by simp [exec] at hr
  | k + 1, 0, _, _, _, _, hk, _ => by omega
  | k + 1, k' + 1, c, e, h, r, hk, hr => by
    have ih := fun {c e h r} (q : exec cl k c e h = some r) => exec_mono hc (show k ≤ k' by omega) q
    cases c with
    | skip => exact hr
    | exit => exact hr
    | ret => exact hr
    | reg d ops ds =>
      simp only [exec] at hr ⊢
      cases d with
      | true =>
        simp only [if_true] at hr ⊢
        cases hq : runOpsD cl ops 0 [] [] e h with
        | none => rw [hq] at hr; cases hr
        | some q => rw [hq] at hr; rw [runOpsD_mono hc hq]; exact hr
      | false =>
        simp only [Bool.false_eq_true, if_false] at hr ⊢
        cases hq : runOps cl ops e h with
        | none => rw [hq] at hr; cases hr
        | some q => rw [hq] at hr; rw [runOps_mono hc hq]; exact hr
    | seq a b =>
      simp only [exec] at hr ⊢
      cases hq : exec cl k a e h with
      | none => rw [hq] at hr; cases hr
      | some q =>
        rw [hq] at hr
        rw [ih hq]
        obtain ⟨x, e', h'⟩ := q
        cases x with
        | n => exact ih hr
        | x => exact hr
        | r => exact hr
    | cond x a b =>
      simp only [exec] at hr ⊢
      split at hr
      · exact ih hr
      · exact ih hr
      · cases hr
    | blk id b =>
      simp only [exec] at hr ⊢
      cases hq : exec cl k b e h with
      | none => rw [hq] at hr; cases hr
      | some q =>
        rw [hq] at hr
        rw [ih hq]
        exact hr
    | loop b =>
      simp only [exec] at hr ⊢
      cases hq : exec cl k b e h with
      | none => rw [hq] at hr; cases hr
      | some q =>
        rw [hq] at hr
        rw [ih hq]
        obtain ⟨x, e', h'⟩ := q
        cases x with
        | n => exact ih hr
        | x => exact hr
        | r => exact hr

theorem call_mono {tab : FuncId → Option Entry} : ∀ {k k' : Nat}, k ≤ k' → Le (call tab k) (call tab k')
  | 0, _, _, _, _, _, _, hr => by simp [call] at hr
  | k + 1, 0, hk, _, _, _, _, _ => by omega
  | k + 1, k' + 1, hk, f, vs, h, r, hr => by
    simp only [call] at hr ⊢
    cases ht : tab f with
    | none => rw [ht] at hr; cases hr
    | some en =>
      rw [ht] at hr
      cases en with
      | prim p => exact hr
      | code fn =>
        simp only at hr ⊢
        have hk' : k ≤ k' := by omega
        cases hq : exec (call tab k) k fn.body (setArgs (Tr.perf fn.depth) 0 vs) h with
        | none => rw [hq] at hr; cases hr
        | some q =>
          rw [hq] at hr
          rw [exec_mono (call_mono hk') hk' hq]
          exact hr

/-- A call that comes back, with some fuel. -/
noncomputable def lim (tab : FuncId → Option Entry) : Cl := fun f vs h => by
  classical exact if hx : ∃ r k, call tab k f vs h = some r then some hx.choose else none

theorem lim_spec {tab : FuncId → Option Entry} {f : FuncId} {vs : List AV} {h : H} {r : AV × H} : lim tab f vs h = some r ↔ ∃ k, call tab k f vs h = some r := by
  unfold lim
  constructor
  · intro hr
    split at hr
    · rename_i hx
      cases hr
      exact hx.choose_spec
    · cases hr
  · rintro ⟨k, hk⟩
    have hx : ∃ r k, call tab k f vs h = some r := ⟨r, k, hk⟩
    rw [dif_pos hx]
    obtain ⟨k2, h2⟩ := hx.choose_spec
    have a := call_mono (Nat.le_max_left k k2) _ _ _ _ hk
    have b := call_mono (Nat.le_max_right k k2) _ _ _ _ h2
    rw [a] at b
    cases b
    simp

theorem lim_ev {tab : FuncId → Option Entry} {f : FuncId} {vs : List AV} {h : H} {r : AV × H} (hr : lim tab f vs h = some r) : ∃ N, ∀ k, N ≤ k → call tab k f vs h = some r := by
  obtain ⟨k, hk⟩ := lim_spec.1 hr
  exact ⟨k, fun k' h' => call_mono h' _ _ _ _ hk⟩

variable {tab : FuncId → Option Entry}

theorem step1_lim {e : Env} {h : H} {op : Op} {r : Option AV × H} (hr : step1 (lim tab) e h op = some r) : ∃ N, ∀ k, N ≤ k → step1 (call tab k) e h op = some r := by
  cases op
  case call f args =>
    simp only [step1, Op.cls, actOp] at hr ⊢
    cases hv : evs e args with
    | none => rw [hv] at hr; cases hr
    | some vs =>
      rw [hv] at hr
      simp only at hr ⊢
      cases hq : lim tab f vs h with
      | none => rw [hq] at hr; cases hr
      | some q =>
        obtain ⟨N, hN⟩ := lim_ev hq
        rw [hq] at hr
        exact ⟨N, fun k hk => by rw [hN k hk]; exact hr⟩
  case callv f args =>
    simp only [step1, Op.cls, actOp] at hr ⊢
    split at hr
    · rename_i f' first caps vs h1 h2
      cases hq : lim tab f' (first.map ofAddr ++ vs ++ caps.map ofAddr) h with
      | none => rw [hq] at hr; cases hr
      | some q =>
        obtain ⟨N, hN⟩ := lim_ev hq
        rw [hq] at hr
        exact ⟨N, fun k hk => by rw [hN k hk]; exact hr⟩
    · cases hr
  all_goals exact ⟨0, fun _ _ => hr⟩

theorem runOps_lim : ∀ {os : List Or} {e : Env} {h : H} {r : Env × H}, runOps (lim tab) os e h = some r → ∃ N, ∀ k, N ≤ k → runOps (call tab k) os e h = some r
  | [], _, _, _, hr => ⟨0, fun _ _ => hr⟩
  | o :: os, e, h, r, hr => by
    simp only [runOps] at hr ⊢
    split at hr
    · split at hr
      · rename_i v h' hs
        obtain ⟨N1, h1⟩ := step1_lim hs
        obtain ⟨N2, h2⟩ := runOps_lim hr
        refine ⟨max N1 N2, fun k hk => ?_⟩
        rw [h1 k (by omega)]
        exact h2 k (by omega)
      · cases hr
    · exact runOps_lim hr
    · cases hr

theorem runOpsD_lim : ∀ {os : List Or} {i : Nat} {rds : List Rd} {past : List (Nat × H)} {e : Env} {h : H} {r : Env × H}, runOpsD (lim tab) os i rds past e h = some r → ∃ N, ∀ k, N ≤ k → runOpsD (call tab k) os i rds past e h = some r
  | [], _, _, _, _, _, _, hr => ⟨0, fun _ _ => hr⟩
  | o :: os, i, rds, past, e, h, r, hr => by
    simp only [runOpsD] at hr ⊢
    cases hw : wants e o.guard with
    | none => rw [hw] at hr; cases hr
    | some b =>
      rw [hw] at hr
      cases b with
      | false => exact runOpsD_lim hr
      | true =>
        simp only at hr ⊢
        cases hs : step1 (lim tab) e h o.op with
        | none => rw [hs] at hr; cases hr
        | some q =>
          obtain ⟨v, h'⟩ := q
          rw [hs] at hr
          obtain ⟨N1, n1⟩ := step1_lim hs
          simp only at hr
          have key : ∃ N, ∀ k, N ≤ k → (match o.op.cls, v with
        | .read, some u => if rdId e o.op < h.nx ∧ early e o.op u o.bef past = true then runOpsD (call tab k) os (i + 1) (⟨e, o.op, u, i⟩ :: rds) past (setD e o.dst v) h' else none
        | .act, _ => if reread h' o.bef rds then runOpsD (call tab k) os (i + 1) rds ((i, h) :: past) (setD e o.dst v) h' else none
        | _, _ => runOpsD (call tab k) os (i + 1) rds past (setD e o.dst v) h') = some r := by
            rcases hc : o.op.cls with _ | _ | _ | _ <;> rcases v with _ | u <;> simp only [hc] at hr ⊢ <;> first
              | exact runOpsD_lim hr
              | (split at hr
                 · rename_i h2
                   obtain ⟨N, hN⟩ := runOpsD_lim hr
                   exact ⟨N, fun k hk => by rw [if_pos h2]; exact hN k hk⟩
                 · cases hr)
          obtain ⟨N2, n2⟩ := key
          refine ⟨max N1 N2, fun k hk => ?_⟩
          rw [n1 k (by omega)]
          exact n2 k (by omega)

theorem exec_lim : ∀ {n : Nat} {c : C} {e : Env} {h : H} {r : Ex × Env × H}, exec (lim tab) n c e h = some r → ∃ N, ∀ k m, N ≤ k → N ≤ m → exec (call tab k) m c e h = some r
  | 0, _, _, _, _, hr => by simp [exec] at hr
  | n + 1, c, e, h, r, hr => by
    have ih := fun {c e h r} (q : exec (lim tab) n c e h = some r) => exec_lim q
    cases c with
    | skip => exact ⟨1, fun k m _ hm => by obtain ⟨m, rfl⟩ : ∃ j, m = j + 1 := ⟨m - 1, by omega⟩; exact hr⟩
    | exit => exact ⟨1, fun k m _ hm => by obtain ⟨m, rfl⟩ : ∃ j, m = j + 1 := ⟨m - 1, by omega⟩; exact hr⟩
    | ret => exact ⟨1, fun k m _ hm => by obtain ⟨m, rfl⟩ : ∃ j, m = j + 1 := ⟨m - 1, by omega⟩; exact hr⟩
    | reg d ops ds =>
      simp only [exec] at hr
      cases d with
      | true =>
        simp only [if_true] at hr
        cases hq : runOpsD (lim tab) ops 0 [] [] e h with
        | none => rw [hq] at hr; cases hr
        | some q =>
          rw [hq] at hr
          obtain ⟨N, hN⟩ := runOpsD_lim hq
          refine ⟨N + 1, fun k m hk hm => ?_⟩
          obtain ⟨m, rfl⟩ : ∃ j, m = j + 1 := ⟨m - 1, by omega⟩
          simp only [exec, if_true]
          rw [hN k (by omega)]
          exact hr
      | false =>
        simp only [Bool.false_eq_true, if_false] at hr
        cases hq : runOps (lim tab) ops e h with
        | none => rw [hq] at hr; cases hr
        | some q =>
          rw [hq] at hr
          obtain ⟨N, hN⟩ := runOps_lim hq
          refine ⟨N + 1, fun k m hk hm => ?_⟩
          obtain ⟨m, rfl⟩ : ∃ j, m = j + 1 := ⟨m - 1, by omega⟩
          simp only [exec, Bool.false_eq_true, if_false]
          rw [hN k (by omega)]
          exact hr
    | seq a b =>
      simp only [exec] at hr
      cases hq : exec (lim tab) n a e h with
      | none => rw [hq] at hr; cases hr
      | some q =>
        rw [hq] at hr
        obtain ⟨N1, n1⟩ := ih hq
        obtain ⟨x, e', h'⟩ := q
        cases x with
        | n =>
          obtain ⟨N2, n2⟩ := ih hr
          refine ⟨max N1 N2 + 1, fun k m hk hm => ?_⟩
          obtain ⟨m, rfl⟩ : ∃ j, m = j + 1 := ⟨m - 1, by omega⟩
          simp only [exec]
          rw [n1 k m (by omega) (by omega)]
          exact n2 k m (by omega) (by omega)
        | x i =>
          refine ⟨N1 + 1, fun k m hk hm => ?_⟩
          obtain ⟨m, rfl⟩ : ∃ j, m = j + 1 := ⟨m - 1, by omega⟩
          simp only [exec]
          rw [n1 k m (by omega) (by omega)]
          exact hr
        | r =>
          refine ⟨N1 + 1, fun k m hk hm => ?_⟩
          obtain ⟨m, rfl⟩ : ∃ j, m = j + 1 := ⟨m - 1, by omega⟩
          simp only [exec]
          rw [n1 k m (by omega) (by omega)]
          exact hr
    | cond x a b =>
      simp only [exec] at hr
      split at hr
      · rename_i hx
        obtain ⟨N1, n1⟩ := ih hr
        refine ⟨N1 + 1, fun k m hk hm => ?_⟩
        obtain ⟨m, rfl⟩ : ∃ j, m = j + 1 := ⟨m - 1, by omega⟩
        simp only [exec, hx]
        exact n1 k m (by omega) (by omega)
      · rename_i hx
        obtain ⟨N1, n1⟩ := ih hr
        refine ⟨N1 + 1, fun k m hk hm => ?_⟩
        obtain ⟨m, rfl⟩ : ∃ j, m = j + 1 := ⟨m - 1, by omega⟩
        simp only [exec, hx]
        exact n1 k m (by omega) (by omega)
      · cases hr
    | blk id b =>
      simp only [exec] at hr
      cases hq : exec (lim tab) n b e h with
      | none => rw [hq] at hr; cases hr
      | some q =>
        rw [hq] at hr
        obtain ⟨N1, n1⟩ := ih hq
        refine ⟨N1 + 1, fun k m hk hm => ?_⟩
        obtain ⟨m, rfl⟩ : ∃ j, m = j + 1 := ⟨m - 1, by omega⟩
        simp only [exec]
        rw [n1 k m (by omega) (by omega)]
        exact hr
    | loop b =>
      simp only [exec] at hr
      cases hq : exec (lim tab) n b e h with
      | none => rw [hq] at hr; cases hr
      | some q =>
        rw [hq] at hr
        obtain ⟨N1, n1⟩ := ih hq
        obtain ⟨x, e', h'⟩ := q
        cases x with
        | n =>
          obtain ⟨N2, n2⟩ := ih hr
          refine ⟨max N1 N2 + 1, fun k m hk hm => ?_⟩
          obtain ⟨m, rfl⟩ : ∃ j, m = j + 1 := ⟨m - 1, by omega⟩
          simp only [exec]
          rw [n1 k m (by omega) (by omega)]
          exact n2 k m (by omega) (by omega)
        | x i =>
          refine ⟨N1 + 1, fun k m hk hm => ?_⟩
          obtain ⟨m, rfl⟩ : ∃ j, m = j + 1 := ⟨m - 1, by omega⟩
          simp only [exec]
          rw [n1 k m (by omega) (by omega)]
          exact hr
        | r =>
          refine ⟨N1 + 1, fun k m hk hm => ?_⟩
          obtain ⟨m, rfl⟩ : ∃ j, m = j + 1 := ⟨m - 1, by omega⟩
          simp only [exec]
          rw [n1 k m (by omega) (by omega)]
          exact hr

/-- A function's code, run. -/
theorem lim_code {f : FuncId} {fn : Fn} (ht : tab f = some (.code fn)) {n : Nat} {vs : List AV} {h h' : H} {x : Ex} {e' : Env} {v : AV} (hx : x = .n ∨ x = .r)
    (hr : exec (lim tab) n fn.body (setArgs (Tr.perf fn.depth) 0 vs) h = some (x, e', h')) (hv : (results h' e' fn.results).bind tupled = some v) : lim tab f vs h = some (v, h') := by
  obtain ⟨N, hN⟩ := exec_lim hr
  refine lim_spec.2 ⟨N + 1, ?_⟩
  simp only [call, ht]
  rw [hN N N (by omega) (by omega)]
  rcases hx with rfl | rfl
  · simp only [hv]
  · simp only [hv]

theorem lim_prim {f : FuncId} {p : List AV → H → Option (AV × H)} (ht : tab f = some (.prim p)) {vs : List AV} {h : H} {r : AV × H} (hr : p vs h = some r) : lim tab f vs h = some r :=
  lim_spec.2 ⟨1, by simp only [call, ht]; exact hr⟩

end Go.AM.G
