/- All that acts, but calls. -/
import Derived.Test.YtfniiaghlkacaaaGreatAm14
namespace Go.AM
open Go
set_option linter.unusedSimpArgs false

section
variable {P : Program} {ρ : Ren} {e : Env} {a : Act} {h : H} {w : World}

theorem src_again (R : Rel ρ h w) {sz : Nat} {u : AV} {x : Value} {xs : List SV} {n : Nat} (hs : srcCells h sz u = some xs) (hl : lenOf u = some n) (hx : VRel ρ u x) :
    ∃ ys, All2 (SRel ρ) xs ys ∧ xs.length = n * sz ∧ (∀ P, (Builtin.lenOf x).run P w = .ok n w) ∧ ∀ w' : World, (∀ b, b < w.heap.size → w'.heap[b]? = w.heap[b]?) → (Builtin.firstCells sz n x).run P w' = .ok ys.toArray w' := by
  obtain ⟨ys, q, hlen, hlr, hf⟩ := src_run R hs hl hx
  refine ⟨ys, q, hlen, hlr, fun w' hw' => ?_⟩
  have e := hf P n (Nat.le_refl _)
  rw [List.take_of_length_le (by rw [← q.length, hlen]; exact Nat.le_refl _)] at e
  unfold srcCells at hs
  split at hs
  · obtain ⟨rfl, rfl, _, rfl⟩ := hx
    simp only [Builtin.firstCells, Sem.run_pure, Result.ok.injEq, and_true] at e ⊢
    exact e
  · rename_i j o len cap ex z
    split at hs
    case isFalse => cases hs
    rename_i hz
    subst hz
    obtain ⟨L, o', c', hL, rfl, hlc, hcc, hex, hof⟩ := hx
    simp only [Builtin.firstCells] at e ⊢
    have hb := R.lt j L hL
    by_cases h0 : n * z = 0
    · rw [h0] at e ⊢
      simp only [loadCells, loadCellsFrom, Sem.run_pure, Result.ok.injEq, and_true] at e ⊢
      exact e
    have : ∀ (k q : Nat) (acc : Array Value), (loadCellsFrom ⟨L.b, o', none⟩ q k acc).run P w = .ok ys.toArray w → (loadCellsFrom ⟨L.b, o', none⟩ q k acc).run P w' = .ok ys.toArray w' := by
      intro k
      induction k with
      | zero => intro q acc hq; simp only [loadCellsFrom, Sem.run_pure, Result.ok.injEq] at hq ⊢; exact ⟨hq.1, trivial⟩
      | succ k ih =>
        intro q acc hq
        simp only [loadCellsFrom, Sem.run_bind, add_none, run_load] at hq ⊢
        have hc : w'.cell? ⟨L.b, o' + q, none⟩ = w.cell? ⟨L.b, o' + q, none⟩ := by simp only [World.cell?, hw' _ hb]
        rw [hc]
        cases hcq : w.cell? ⟨L.b, o' + q, none⟩ with
        | some v => rw [hcq] at hq; simp only [Result.andThen_ok] at hq ⊢; exact ih _ _ hq
        | none =>
          exfalso
          rw [hcq] at hq
          simp only at hq
          unfold cellsAt at hs
          split at hs
          case h_2 => cases hs
          rename_i cs t ro hg
          obtain ⟨c, t2, fz, hbk, _⟩ := R.objs j _ L hg hL
          have hfar : w.farLoad P ⟨L.b, o' + q, none⟩ ((Mode.plain == Mode.atomic)) = .error (w.noCell ⟨L.b, o' + q, none⟩ "load: no such cell") := by
            simp [World.farLoad, hbk]
          rw [hfar] at hq
          simp [Result.andThen] at hq
    exact this _ _ _ e
  · cases hx
    simp only [Builtin.firstCells, Sem.run_pure, Result.ok.injEq, and_true] at e ⊢
    exact e
  · cases hs

theorem run_typeInfo' {t : TypeId} {i : TypeInfo} (hh : P.info? t = some i) (w : World) : (Go.typeInfo t).run P w = .ok i w := run_typeInfo w hh

theorem sim_app (r : EnvRel ρ e a.tmps) (R : Rel ρ h w) {args : Array Operand} {ts : Array TypeId} {t u : TypeId} {s x : Operand} (ha : args.toList = [s, x]) (ht : ts.toList = [t, u]) {el : TypeId} (hu : P.underlying t = some (.slice el))
    {du : TypeDesc} (hdu : P.underlying u = some du) (hni : ∀ k, du ≠ .int k) {i : TypeInfo} (hi : P.info? el = some i) {z : List SV} (hz : zero? P el = some z) (hzl : z.length = i.size)
    {s' x' : X} (hs : cX s = some s') (hx : cX x = some x') {cl : FuncId → List AV → H → Option (AV × H)} {v : Option AV} {h' : H} (hn0 : h.nx < h'.nx → ρ h.nx = none)
    (hv : actOp cl e h (.app el i.size i.bytes s' x') = some (v, h')) : ActsOp P ρ a (.call { callee := .builtin .append, args, argTypes := ts }) h w v h' := by
  simp only [actOp] at hv
  split at hv
  case h_2 => cases hv
  rename_i sv xv hsv hxv
  split at hv
  case h_2 => cases hv
  rename_i xs n h1 h2
  split at hv
  case h_2 => cases hv
  rename_i u' h'' happ
  cases hv
  have hsr := ev_sim r hs hsv
  have hxr := ev_sim r hx hxv
  obtain ⟨ys, hys, hlen, hlr, hfc⟩ := src_again (P := P) R h1 h2 hxr
  intro dst ty pos aft gd
  obtain ⟨bs, hrun⟩ := builtin_run (P := P) (a := a) (b := .append) (args := args) (ts := ts) dst ty pos aft gd w
  rw [hrun, list_two a.eval ha, arr_two ht]
  have hcells : P.cellsOf el = i.size := by simp [Program.cellsOf, hi]
  have key : ∃ (y : Value) (w' : World) (ρ' : Ren), (Builtin.append_ #[t, u] ty #[a.eval s, a.eval x]).run P w = .ok y w' ∧ Rel ρ' h' w' ∧ Step ρ h w ρ' h' w' ∧ VRel ρ' u' y := by
    refine append_run R hz hzl hn0 hsr hys happ ?_ ?_
    · intro base sLen sCap hb hle w' hst
      simp only [Builtin.append_, List.getElem?_toArray, List.getElem?_cons_zero, List.getElem?_cons_succ, Sem.run_bind, run_underlying hu, Result.andThen_ok, hb, run_sizeOf w hi, hcells, run_underlying hdu, Sem.run_pure]
      have hm : (match du with | .int _ => true | _ => false) = false := by cases du <;> first | rfl | exact absurd rfl (hni _)
      simp only [hm, Bool.false_eq_true, if_false, Sem.run_bind, hlr P, Result.andThen_ok, Bool.not_false, if_true, hle, hfc w (fun _ _ => rfl)]
      cases base with
      | none => simp only [Sem.run_pure] at hst ⊢; cases hst; rfl
      | some b => simp only [Sem.run_bind] at hst ⊢; rw [hst]; rfl
    · intro base sLen sCap old zx hb hle hmx hnc hzr hold
      simp only [Builtin.append_, List.getElem?_toArray, List.getElem?_cons_zero, List.getElem?_cons_succ, Sem.run_bind, run_underlying hu, Result.andThen_ok, hb, run_sizeOf w hi, hcells, run_underlying hdu, Sem.run_pure]
      have hm : (match du with | .int _ => true | _ => false) = false := by cases du <;> first | rfl | exact absurd rfl (hni _)
      have h1 : ¬ (((sLen + n : Nat) : Int) > IntKind.i64.max ∧ (False ∨ i.bytes = 0)) := by omega
      have h2 : ¬ (Builtin.nextslicecap (sLen + n) sCap * i.bytes > 2 ^ 48) := by omega
      have hd : ({ w with drawn := w.drawn + 1 } : World) = w.drew := rfl
      simp only [hm, Bool.false_eq_true, if_false, Sem.run_bind, hlr P, Result.andThen_ok, Bool.not_false, if_true, hle, run_typeInfo' hi, h1, h2, run_choose, Question.forced, run_askRoom, Sem.run_pure, hd]
      rw [← hb, hold]
      simp only [Result.andThen_ok, hfc w.drew (fun _ _ => rfl), hzr, newRow, Sem.run_bind, run_newObj, Sem.run_pure]
      rfl
  obtain ⟨x1, w', ρ', k1, k2, k3, k4⟩ := key
  refine ⟨.value x1, w', ρ', ?_, k2, k3, x1, rfl, k4⟩
  simp only [Go.builtin, Sem.run_bind, k1, Result.andThen_ok, Sem.run_pure]

theorem wrap_of {q : Int} (h0 : 0 ≤ q) (h1 : q ≤ 1099511627776) : IntKind.i64.wrap q = q := by
  have e1 : IntKind.i64.bits = 64 := rfl
  have e2 : IntKind.i64.signed = true := rfl
  simp only [IntKind.wrap, e1, e2]
  have : q % (2 ^ 64 : Int) = q := by omega
  rw [this]
  have e3 : (2 ^ (64 - 1) : Int) = 9223372036854775808 := by decide
  rw [e3]
  have h2 : decide (q ≥ 9223372036854775808) = false := by simp; omega
  simp [h2]

theorem sim_app0 (r : EnvRel ρ e a.tmps) (R : Rel ρ h w) {args : Array Operand} {ts : Array TypeId} {t u : TypeId} {s x : Operand} (ha : args.toList = [s, x]) (ht : ts.toList = [t, u]) {el : TypeId} (hu : P.underlying t = some (.slice el))
    {k : IntKind} (hdu : P.underlying u = some (.int k)) {i : TypeInfo} (hi : P.info? el = some i) {z : List SV} (hz : zero? P el = some z) (hzl : z.length = i.size)
    {s' x' : X} (hs : cX s = some s') (hx : cX x = some x') {cl : FuncId → List AV → H → Option (AV × H)} {v : Option AV} {h' : H} (hn0 : h.nx < h'.nx → ρ h.nx = none)
    (hv : actOp cl e h (.app0 el z i.bytes s' x') = some (v, h')) : ActsOp P ρ a (.call { callee := .builtin .append, args, argTypes := ts }) h w v h' := by
  simp only [actOp] at hv
  split at hv
  case h_2 => cases hv
  rename_i sv q hsv hxv
  split at hv
  case isFalse => cases hv
  rename_i hb
  split at hv
  case h_2 => cases hv
  rename_i u' h'' happ
  cases hv
  rw [hzl] at happ
  have hsr := ev_sim r hs hsv
  have hxr : a.eval x = .int .i64 q := ev_sim r hx hxv
  have hmost : most = 1099511627776 := rfl
  have hw := wrap_of hb.1 (by have := hb.2.1; omega)
  obtain ⟨zx, hzr0, hzc, hzinfo⟩ := zero_run (ρ := ρ) hz w
  have hzr' : ∀ w' : World, (Go.zeroValue el).run P w' = .ok zx w' := by
    intro w'
    simp only [Option.bind_eq_some_iff] at hzinfo
    obtain ⟨i', hi', hz'⟩ := hzinfo
    simp [Go.zeroValue, run_typeInfo w' hi', hz']
  have hzs : zx.cells.size = z.length := by have := hzc.length; simp at this; omega
  have hys : All2 (SRel ρ) (rep q.toNat z) (Builtin.zeroCells zx.cells q.toNat).toList := by
    have := rep_rel hzc q.toNat z.length rfl
    simpa only [Builtin.zeroCells, hzs] using this
  have hemp : q.toNat * i.size = 0 → Builtin.zeroCells zx.cells q.toNat = #[] := by
    intro h0
    simp only [Builtin.zeroCells, hzs, hzl, h0]
    simp
  have happd : ∀ w' : World, (if q.toNat * i.size = 0 then pure #[] else do pure (Builtin.zeroCells (← Go.zeroValue el).cells q.toNat) : Sem (Array Value)).run P w' = .ok (Builtin.zeroCells zx.cells q.toNat) w' := by
    intro w'
    by_cases h0 : q.toNat * i.size = 0
    · rw [hemp h0]; simp [h0]
    · simp only [h0, if_false, Sem.run_bind, hzr', Result.andThen_ok, Sem.run_pure]
  have hcells : P.cellsOf el = i.size := by simp [Program.cellsOf, hi]
  intro dst ty pos aft gd
  obtain ⟨bs, hrun⟩ := builtin_run (P := P) (a := a) (b := .append) (args := args) (ts := ts) dst ty pos aft gd w
  rw [hrun, list_two a.eval ha, arr_two ht]
  have h3 : ¬ (q < 0) := by omega
  have h4 : ¬ (q * (i.bytes : Int) > 2 ^ 48) := by
    have e1 : (2 ^ 48 : Int) = 281474976710656 := by decide
    rw [e1]
    have : ((q.toNat * i.bytes : Nat) : Int) = q * (i.bytes : Int) := by push_cast; rw [Int.toNat_of_nonneg hb.1]
    have := hb.2.2
    omega
  have key : ∃ (y : Value) (w' : World) (ρ' : Ren), (Builtin.append_ #[t, u] ty #[a.eval s, a.eval x]).run P w = .ok y w' ∧ Rel ρ' h' w' ∧ Step ρ h w ρ' h' w' ∧ VRel ρ' u' y := by
    refine append_run R hz hzl hn0 hsr hys happ ?_ ?_
    · intro base sLen sCap hb' hle w' hst
      simp only [Builtin.append_, List.getElem?_toArray, List.getElem?_cons_zero, List.getElem?_cons_succ, Sem.run_bind, run_underlying hu, Result.andThen_ok, hb', run_sizeOf w hi, hcells, run_underlying hdu, Sem.run_pure]
      simp only [if_true, Sem.run_bind, hxr, Go.asInt, Go.asIntOf, Sem.run_pure, Result.andThen_ok, hw, h3, if_false, run_typeInfo' hi, h4, hle, Bool.not_true, Bool.false_eq_true]
      have := happd w
      simp only [Sem.run_ite, Sem.run_pure, Sem.run_bind] at this
      simp only [Sem.run_ite, Sem.run_pure, Sem.run_bind, this, Result.andThen_ok]
      cases base with
      | none => simp only [Sem.run_pure] at hst ⊢; cases hst; rfl
      | some b => simp only [Sem.run_bind] at hst ⊢; rw [hst]; rfl
    · intro base sLen sCap old zx' hb' hle hmx hnc hzr hold
      have hzz : zx' = zx := by have := hzr w; rw [hzr' w] at this; cases this; rfl
      subst hzz
      have h1 : ¬ (((sLen + q.toNat : Nat) : Int) > IntKind.i64.max ∧ (True ∨ i.bytes = 0)) := by omega
      have h2 : ¬ (Builtin.nextslicecap (sLen + q.toNat) sCap * i.bytes > 2 ^ 48) := by omega
      have hd : ({ w with drawn := w.drawn + 1 } : World) = w.drew := rfl
      simp only [Builtin.append_, List.getElem?_toArray, List.getElem?_cons_zero, List.getElem?_cons_succ, Sem.run_bind, run_underlying hu, Result.andThen_ok, hb', run_sizeOf w hi, hcells, run_underlying hdu, Sem.run_pure]
      simp only [if_true, Sem.run_bind, hxr, Go.asInt, Go.asIntOf, Sem.run_pure, Result.andThen_ok, hw, h3, if_false, run_typeInfo' hi, h4, hle, Bool.not_true, Bool.false_eq_true, h1, h2, run_choose, Question.forced, run_askRoom, hd]
      rw [← hb', hold]
      have := happd w.drew
      simp only [Sem.run_ite, Sem.run_pure, Sem.run_bind, hzr, Result.andThen_ok] at this
      simp only [Result.andThen_ok, Sem.run_ite, Sem.run_pure, Sem.run_bind, hzr, this, newRow, run_newObj, Array.toArray_toList]
      rfl
  obtain ⟨x1, w', ρ', k1, k2, k3, k4⟩ := key
  refine ⟨.value x1, w', ρ', ?_, k2, k3, x1, rfl, k4⟩
  simp only [Go.builtin, Sem.run_bind, k1, Result.andThen_ok, Sem.run_pure]

/-- Is it a call of a Go function? -/
def Op.isCall : Op → Bool
  | .call .. | .callv .. => true
  | _ => false

theorem act_sim (r : EnvRel ρ e a.tmps) (R : Rel ρ h w) {g : Go.Op} {op : Op} (hc : cOp P g = some op) (hk : op.cls = .act) (hcall : op.isCall = false) {cl : FuncId → List AV → H → Option (AV × H)} {v : Option AV} {h' : H} (hn0 : h.nx < h'.nx → ρ h.nx = none)
    (hv : actOp cl e h op = some (v, h')) : ActsOp P ρ a g h w v h' := by
  cases g
  case store => exact sim_st r R hc hv
  case mapUpdate => exact sim_mupd r R hc hv
  case call c =>
    obtain ⟨callee, args, ts⟩ := c
    cases callee with
    | builtin b =>
      simp only [cOp] at hc
      unfold cBuiltin at hc
      split at hc
      · rename_i t u s x ht ha
        split at hc
        · rename_i el k s' x' hu hdu hs hx
          split at hc
          · rename_i z i hz hi
            split at hc
            · rename_i hzl
              cases hc
              exact sim_app0 r R ha ht hu hdu hi hz hzl hs hx hn0 hv
            · cases hc
          · cases hc
        · rename_i el du s' x' hni hu hdu hs hx
          split at hc
          · rename_i z i hz hi
            split at hc
            · rename_i hzl
              cases hc
              exact sim_app r R ha ht hu hdu (fun k hk => hni k hk) hi hz hzl hs hx hn0 hv
            · cases hc
          · cases hc
        · cases hc
      · (repeat' (split at hc)) <;> first | (cases hc; done) | (cases hc; cases hk; done)
      · (repeat' (split at hc)) <;> first | (cases hc; done) | (cases hc; cases hk; done)
      · rename_i t _ d s ht ha
        split at hc
        · rename_i el d' s' hu hd hs
          simp only [Option.map_eq_some_iff] at hc
          obtain ⟨n, hn, rfl⟩ := hc
          exact sim_copy r R ha ht hu hn hd hs hv
        · cases hc
      · rename_i t s ht ha
        split at hc
        · rename_i el s' hu hs
          split at hc
          · rename_i z n hz hn
            split at hc
            · cases hc
              exact sim_clear r R ha ht hu hz hs hv
            · cases hc
          · cases hc
        · cases hc
      · simp only [Option.map_eq_some_iff] at hc; obtain ⟨_, _, rfl⟩ := hc; cases hk
      · simp only [Option.map_eq_some_iff] at hc; obtain ⟨_, _, rfl⟩ := hc; cases hk
      · cases hc
    | invoke => cases hc
    | value f =>
      cases f <;> simp only [cOp] at hc
      case func => simp only [Option.map_eq_some_iff] at hc; obtain ⟨_, _, rfl⟩ := hc; cases hcall
      all_goals
        split at hc
        · cases hc; cases hcall
        · cases hc
  case makeMap t q => cases q with
    | none => cases hc; cases hk
    | some => cases hc
  case makeFunc f _ _ =>
    exfalso
    cases f <;> simp only [cOp] at hc <;> first | (cases hc; done) | (split at hc <;> cases hc; cases hk)
  case binOp =>
    exfalso
    simp only [cOp, cEq] at hc
    (repeat' (split at hc)) <;> first | (cases hc; done) | (cases hc; cases hk; done)
  all_goals first
    | (cases hc; done)
    | (exfalso; simp only [cOp, Option.map_eq_some_iff] at hc; obtain ⟨_, _, rfl⟩ := hc; cases hk; done)
    | (exfalso; simp only [cOp] at hc; (repeat' (split at hc)) <;> first | (cases hc; done) | (cases hc; cases hk; done) | (simp only [Option.map_eq_some_iff] at hc; obtain ⟨_, _, rfl⟩ := hc; cases hk; done))

end
end Go.AM
