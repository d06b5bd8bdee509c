/- copy, clear, append. -/
import Derived.Test.YtfniiaghlkacaaaGreatAm13
namespace Go.AM
open Go
set_option linter.unusedSimpArgs false

section
variable {P : Program} {ρ : Ren} {e : Env} {a : Act} {h : H} {w : World}

theorem copy_run (R : Rel ρ h w) {el t1 t2 ty : TypeId} {sz : Nat} (hu : P.underlying t1 = some (.slice el)) (hn : size? P el = some sz) {ad : Option (Nat × Nat)} {dl cap : Nat} {ex : Bool} {z : Nat} {sv : AV} {xd xs : Value}
    (hd : VRel ρ (.s (.sl ad dl cap ex z)) xd) (hs : VRel ρ sv xs) {cs : List SV} {sl : Nat} (h1 : srcCells h sz sv = some cs) (h2 : lenOf sv = some sl) {v : Option AV} {h' : H}
    (hv : (if ad.isSome ∧ z ≠ sz then none else
        match ad with
        | none => some (some (AV.s (.int .i64 (min sl dl : Nat))), h)
        | some (i, o) => if min sl dl = 0 then some (some (AV.s (.int .i64 (min sl dl : Nat))), h) else match h.get i with
          | some (.cells cs' t false) => if o + min sl dl * sz ≤ cs'.length then some (some (AV.s (.int .i64 (min sl dl : Nat))), h.set i (.cells (splice cs' o (cs.take (min sl dl * sz))) t false)) else none
          | _ => none) = some (v, h')) :
    ∃ x w', (Builtin.copy_ #[t1, t2] ty #[xd, xs]).run P w = .ok x w' ∧ Rel ρ h' w' ∧ Step ρ h w ρ h' w' ∧ ∃ u, v = some u ∧ VRel ρ u x := by
  obtain ⟨ys, hall, hlen, hlr, hfc⟩ := src_run R h1 h2 hs
  have hmin : min sl dl ≤ sl := Nat.min_le_left ..
  have hf := hfc P (min sl dl) hmin
  split at hv
  · cases hv
  rename_i hz
  have run0 : ∀ (base : Option Addr) (c : Nat), xd = .slice base dl c → ∀ w', (match base with | some a => storeCells a (ys.take (min sl dl * sz)) | none => pure () : Sem Unit).run P w = .ok () w' →
      (Builtin.copy_ #[t1, t2] ty #[xd, xs]).run P w = .ok (.int .i64 (min sl dl : Nat)) w' := by
    rintro base c rfl w' hst
    simp only [Builtin.copy_, Sem.run_bind]
    simp only [List.getElem?_toArray, List.getElem?_cons_zero, List.getElem?_cons_succ, Sem.run_bind, run_underlying hu, Result.andThen_ok, hlr P, size_run hn]
    have : Nat.min sl dl = min sl dl := rfl
    rw [this, hf]
    simp only [Result.andThen_ok]
    cases base with
    | none =>
      simp only [Sem.run_pure] at hst ⊢
      cases hst
      rfl
    | some b =>
      simp only [Sem.run_bind] at hst ⊢
      rw [hst]
      rfl
  split at hv
  · cases hv
    obtain ⟨rfl, rfl, _, rfl⟩ := hd
    exact ⟨_, w, run0 none 0 rfl w rfl, R, Step.refl .., _, rfl, rfl⟩
  · rename_i i o
    obtain ⟨L, o', c', hL, rfl, hlc, hcc, hex, hof⟩ := hd
    split at hv
    · rename_i h0
      cases hv
      refine ⟨_, w, run0 (some ⟨L.b, o', none⟩) c' rfl w ?_, R, Step.refl .., _, rfl, rfl⟩
      simp [h0, storeCells]
    · rename_i h0
      split at hv
      case h_2 => cases hv
      rename_i cs' t hg
      split at hv
      case isFalse => cases hv
      rename_i hfit
      cases hv
      have ho : o' = L.s + o := by
        rcases hof with h | h
        · omega
        · exact h.1
      subst ho
      have hml : (cs.take (min sl dl * sz)).length = min sl dl * sz := by
        rw [List.length_take, hlen]
        exact Nat.min_eq_left (Nat.mul_le_mul_right _ hmin)
      obtain ⟨w', hrun, r1, r2⟩ := store_run (o := o) R hg hL (hall.take (min sl dl * sz)) (by omega) P
      exact ⟨_, w', run0 (some ⟨L.b, L.s + o, none⟩) c' rfl w' hrun, r1, r2, _, rfl, rfl⟩

theorem sim_copy (r : EnvRel ρ e a.tmps) (R : Rel ρ h w) {args : Array Operand} {ts : Array TypeId} {t1 t2 : TypeId} {d s : Operand} (ha : args.toList = [d, s]) (ht : ts.toList = [t1, t2]) {el : TypeId} (hu : P.underlying t1 = some (.slice el)) {sz : Nat} (hn : size? P el = some sz)
    {d' s' : X} (hd : cX d = some d') (hs : cX s = some s') {cl : FuncId → List AV → H → Option (AV × H)} {v : Option AV} {h' : H}
    (hv : actOp cl e h (.copy sz d' s') = some (v, h')) : ActsOp P ρ a (.call { callee := .builtin .copy, args, argTypes := ts }) h w v h' := by
  simp only [actOp] at hv
  split at hv
  case h_2 => cases hv
  rename_i ad dl cap ex z sv hdv hsv
  split at hv
  case h_2 => cases hv
  rename_i cs sl h1 h2
  intro dst ty pos aft gd
  obtain ⟨bs, hrun⟩ := builtin_run (P := P) (a := a) (b := .copy) (args := args) (ts := ts) dst ty pos aft gd w
  obtain ⟨x, w', hc, r1, r2, u, hvu, hq⟩ := copy_run R (t2 := t2) (ty := ty) hu hn (ev_sim r hd hdv) (ev_sim r hs hsv) h1 h2 hv
  refine ⟨.value x, w', ρ, ?_, r1, r2, by rw [hvu]; exact ⟨x, rfl, hq⟩⟩
  rw [hrun, list_two a.eval ha, arr_two ht]
  simp only [Go.builtin, Sem.run_bind, hc, Result.andThen_ok, Sem.run_pure]

theorem sim_clear (r : EnvRel ρ e a.tmps) (R : Rel ρ h w) {args : Array Operand} {ts : Array TypeId} {t : TypeId} {s : Operand} (ha : args.toList = [s]) (ht : ts.toList = [t]) {el : TypeId} (hu : P.underlying t = some (.slice el)) {z : List SV} (hz : zero? P el = some z)
    {s' : X} (hs : cX s = some s') {cl : FuncId → List AV → H → Option (AV × H)} {v : Option AV} {h' : H}
    (hv : actOp cl e h (.clear z s') = some (v, h')) : ActsOp P ρ a (.call { callee := .builtin .clear, args, argTypes := ts }) h w v h' := by
  simp only [actOp] at hv
  split at hv
  case h_2 => cases hv
  rename_i ad n cap ex sz hsv
  have hr := ev_sim r hs hsv
  intro dst ty pos aft gd
  obtain ⟨bs, hrun⟩ := builtin_run (P := P) (a := a) (b := .clear) (args := args) (ts := ts) dst ty pos aft gd w
  rw [hrun, list_one a.eval ha, arr_one ht]
  have fin : ∀ w', (Builtin.clear_ #[t] ty #[a.eval s]).run P w = .ok (.tuple #[]) w' → Rel ρ h' w' → Step ρ h w ρ h' w' → v = none →
      ∃ n w' ρ', (Go.builtin .clear #[t] ty bs #[a.eval s]).run P w = .ok n w' ∧ Rel ρ' h' w' ∧ Step ρ h w ρ' h' w' ∧ NRel ρ' v n := by
    intro w' h1 h2 h3 h4
    refine ⟨.value (.tuple #[]), w', ρ, ?_, h2, h3, by rw [h4]; exact .inr ⟨_, rfl⟩⟩
    simp only [Go.builtin, Sem.run_bind, h1, Result.andThen_ok, Sem.run_pure]
  have noop : (∃ b c, a.eval s = .slice b n c ∧ (n = 0 ∨ b = none)) → (Builtin.clear_ #[t] ty #[a.eval s]).run P w = .ok (.tuple #[]) w := by
    rintro ⟨b, c, he, hb⟩
    rw [he]
    simp only [Builtin.clear_, List.getElem?_toArray, List.getElem?_cons_zero, Sem.run_bind, run_underlying hu, Result.andThen_ok]
    rcases hb with rfl | rfl
    · cases b <;> simp
    · simp
  split at hv
  · rename_i h0
    cases hv
    refine fin w (noop ?_) R (Step.refl ..) rfl
    rcases ad with _ | ⟨i, o⟩
    · obtain ⟨rfl, _, _, he⟩ := hr; exact ⟨_, _, he, .inl rfl⟩
    · obtain ⟨_, _, _, _, he, _⟩ := hr; exact ⟨_, _, he, .inl h0⟩
  · rename_i h0
    split at hv
    · cases hv
      obtain ⟨hn0, _⟩ := hr
      exact absurd hn0 h0
    · rename_i i o
      split at hv
      case h_2 => cases hv
      rename_i cs t' hg
      split at hv
      case isFalse => cases hv
      rename_i hfit
      obtain ⟨hsz, hfit⟩ := hfit
      cases hv
      obtain ⟨L, o', c', hL, he, hlc, hcc, hex, hof⟩ := hr
      have ho : o' = L.s + o := by
        rcases hof with h | h
        · omega
        · exact h.1
      subst ho
      obtain ⟨zx, hzr, hzc, _⟩ := zero_run (ρ := ρ) hz w
      have hrl : (rep n z).length = n * sz := by simp [rep, hsz]
      obtain ⟨w', hst, r1, r2⟩ := store_run (o := o) R hg hL (rep_rel hzc n z.length rfl) (by omega) P
      refine fin w' ?_ r1 r2 rfl
      rw [he]
      have hzs : zx.cells.size = z.length := by have := hzc.length; simp at this; omega
      have hzc2 : (Builtin.zeroCells zx.cells n) = ((Array.range (n * z.length)).map (fun i => zx.cells[i % zx.cells.size]!)) := by
        simp only [Builtin.zeroCells, hzs]
      simp only [Builtin.clear_, List.getElem?_toArray, List.getElem?_cons_zero, Sem.run_bind, run_underlying hu, Result.andThen_ok]
      cases n with
      | zero => exact absurd rfl h0
      | succ n =>
        simp only [Sem.run_bind, hzr, Result.andThen_ok, hzc2, hst, Sem.run_pure]

/-! ### append -/

theorem next_le (need old : Nat) (h : old < need) : Builtin.nextslicecap need old ≤ 2 * need + 512 := by
  unfold Builtin.nextslicecap
  split
  · omega
  · split
    · omega
    · have : ∀ (k c : Nat), c ≤ 2 * need + 512 → Builtin.growBy need k c ≤ 2 * need + 512 := by
        intro k
        induction k with
        | zero => intro c hc; simpa [Builtin.growBy] using hc
        | succ k ih =>
          intro c hc
          simp only [Builtin.growBy]
          split
          · exact hc
          · exact ih _ (by omega)
      exact this 4 old (by omega)

set_option maxRecDepth 4000 in
set_option maxHeartbeats 800000 in
theorem append_run (R : Rel ρ h w) {el t1 t2 ty : TypeId} {i : TypeInfo} {z : List SV} (hz : zero? P el = some z) (hzl : z.length = i.size) {args : Array Value}
    {sv u : AV} {xs : List SV} {n : Nat} {h' : H} {x0 : Value} {ys : List Value} (hn0 : h.nx < h'.nx → ρ h.nx = none)
    (hx : VRel ρ sv x0) (hys : All2 (SRel ρ) xs ys) (hv : appendTo h el i.size i.bytes sv xs n = some (u, h'))
    (hA : ∀ base sLen sCap, x0 = .slice base sLen sCap → sLen + n ≤ sCap → ∀ w', (match base with | some a => storeCells (a.add (sLen * i.size)) ys | none => pure () : Sem Unit).run P w = .ok () w' →
      (Builtin.append_ #[t1, t2] ty args).run P w = .ok (.slice base (sLen + n) sCap) w')
    (hB : ∀ base sLen sCap old zx, x0 = .slice base sLen sCap → ¬ (sLen + n ≤ sCap) → ((sLen + n : Nat) : Int) ≤ IntKind.i64.max → Builtin.nextslicecap (sLen + n) sCap * i.bytes ≤ 2 ^ 48 → (∀ w' : World, (Go.zeroValue el).run P w' = .ok zx w') →
      (Builtin.firstCells i.size sLen x0).run P w.drew = .ok old w.drew →
      (Builtin.append_ #[t1, t2] ty args).run P w = .ok (.slice (some ⟨w.heap.size, 0, none⟩) (sLen + n) (grownCap w (sLen + n) sCap el)) (pushed w.drew (.cells (old ++ ys.toArray ++ Builtin.zeroCells zx.cells (grownCap w (sLen + n) sCap el - (sLen + n))) el))) :
    ∃ x w' ρ', (Builtin.append_ #[t1, t2] ty args).run P w = .ok x w' ∧ Rel ρ' h' w' ∧ Step ρ h w ρ' h' w' ∧ VRel ρ' u x := by
  obtain ⟨zx, hzr0, hzc, hzinfo⟩ := zero_run (ρ := ρ) hz w
  have hzr : ∀ w' : World, (Go.zeroValue el).run P w' = .ok zx w' := by
    intro w'
    simp only [Option.bind_eq_some_iff] at hzinfo
    obtain ⟨i', hi', hz'⟩ := hzinfo
    simp [Go.zeroValue, run_typeInfo w' hi', hz']
  have hzs : zx.cells.size = i.size := by have := hzc.length; simp at this; omega
  unfold appendTo at hv
  split at hv
  case h_2 => cases hv
  rename_i ad len cap ex sz
  split at hv
  · cases hv
  rename_i hcond
  simp only [not_or, not_and, ne_eq, Decidable.not_not] at hcond
  obtain ⟨hsz, hxl⟩ := hcond
  have hyl : ys.length = n * i.size := by rw [← hys.length, hxl]
  -- a new row
  have grow : ∀ (base : Option Addr) (c' : Nat) (old : List Value) (oldS : List SV), x0 = .slice base len c' → c' < len + n → (len + n + 512) * i.bytes ≤ most → len + n ≤ most → All2 (SRel ρ) oldS old → oldS.length = len * i.size →
      (Builtin.firstCells i.size len x0).run P w.drew = .ok old.toArray w.drew →
      ∃ newCap, len + n ≤ newCap ∧ (Builtin.append_ #[t1, t2] ty args).run P w = .ok (.slice (some ⟨w.heap.size, 0, none⟩) (len + n) newCap) (pushed w.drew (.cells (old.toArray ++ ys.toArray ++ Builtin.zeroCells zx.cells (newCap - (len + n))) el)) := by
    intro base c' old oldS he hlt hb hb2 hold holdl hfc
    have hnc := next_le (len + n) c' hlt
    refine ⟨grownCap w (len + n) c' el, by unfold grownCap; simp [Question.cut], ?_⟩
    have e2 : ((len + n : Nat) : Int) ≤ IntKind.i64.max := by
      have : IntKind.i64.max = 9223372036854775807 := by decide
      rw [this]
      have : most = 1099511627776 := rfl
      omega
    have e3 : Builtin.nextslicecap (len + n) c' * i.bytes ≤ 2 ^ 48 := by
      have h1 : Builtin.nextslicecap (len + n) c' * i.bytes ≤ (2 * (len + n + 512)) * i.bytes := Nat.mul_le_mul_right _ (by omega)
      have h2 : (2 * (len + n + 512)) * i.bytes = 2 * ((len + n + 512) * i.bytes) := by rw [Nat.mul_assoc]
      have : most = 1099511627776 := rfl
      have h4 : (2 : Nat) ^ 48 = 281474976710656 := by decide
      omega
    exact hB base len c' _ zx he (by omega) e2 e3 hzr hfc
  have hmade : ∀ (newCap : Nat) (old : List Value) (oldS : List SV), All2 (SRel ρ) oldS old → oldS.length = len * i.size → len + n ≤ newCap → ∀ ρ2 : Ren, ρ.le ρ2 → w.drew.heap.size = w.heap.size →
      Made ρ2 w (.cells (oldS ++ xs) el false) (fun j => .s (.sl (some (j, 0)) (len + n) (len + n) false i.size)) (.slice (some ⟨w.heap.size, 0, none⟩) (len + n) newCap)
        (pushed w.drew (.cells (old.toArray ++ ys.toArray ++ Builtin.zeroCells zx.cells (newCap - (len + n))) el)) ⟨w.heap.size, 0, (old.toArray ++ ys.toArray ++ Builtin.zeroCells zx.cells (newCap - (len + n))).size⟩ := by
    intro newCap old oldS hold holdl hle ρ2 hρ2 _
    have hol := hold.length
    have hsize : (old.toArray ++ ys.toArray ++ Builtin.zeroCells zx.cells (newCap - (len + n))).size = newCap * i.size := by
      simp only [Array.size_append, List.size_toArray, Builtin.zeroCells, Array.size_map, Array.size_range, hzs, hyl]
      rw [← hol, holdl, ← Nat.add_mul, ← Nat.add_mul]
      congr 1; omega
    refine ⟨rfl, by show (w.heap.push _).size = _; simp, fun b hb => by show (w.heap.push _)[b]? = _; rw [Array.getElem?_push, if_neg (Nat.ne_of_lt hb)], rfl, rfl, rfl, ?_, fun ρ' j hj => ⟨_, 0, newCap, hj, rfl, Nat.le_refl _, hle, fun h => by simp at h, .inr ⟨rfl, .inr (by rw [hsize]; simp)⟩⟩⟩
    refine ⟨_, el, (0, 0), pushed_at w.drew _, rfl, ?_, fun j v hv => ?_, fun _ o _ => by simp⟩
    · simp only [List.length_append, hxl, holdl, Nat.zero_add]
      rw [hsize, ← Nat.add_mul]
      exact Nat.mul_le_mul_right _ hle
    · obtain ⟨y, hy, q⟩ := (hold.append hys).get j v hv
      refine ⟨y, ?_, q.mono hρ2⟩
      simp only [Nat.zero_add]
      rw [Array.getElem?_append, if_pos]
      · rw [show old.toArray ++ ys.toArray = (old ++ ys).toArray by simp, List.getElem?_toArray]; exact hy
      · have : j < (old ++ ys).length := by
          rcases Nat.lt_or_ge j (old ++ ys).length with q | q
          · exact q
          · rw [List.getElem?_eq_none q] at hy; cases hy
        simpa using this
  split at hv
  · -- nothing is appended
    rename_i hn
    cases hv
    subst hn
    have hy0 : ys = [] := by apply List.length_eq_zero_iff.1; simpa using hyl
    subst hy0
    have fin : ∀ base c', x0 = .slice base len c' → len ≤ c' → (Builtin.append_ #[t1, t2] ty args).run P w = .ok (.slice base len c') w := by
      intro base c' he hle
      exact hA base len c' he (by simpa using hle) w (by cases base <;> simp [storeCells])
    rcases ad with _ | ⟨j, o⟩
    · obtain ⟨rfl, rfl, rfl, rfl⟩ := hx
      exact ⟨_, w, ρ, fin none 0 rfl (Nat.le_refl _), R, Step.refl .., rfl, rfl, rfl, rfl⟩
    · obtain ⟨L, o', c', hL, rfl, hlc, hcc, hex, hof⟩ := hx
      exact ⟨_, w, ρ, fin _ c' rfl (by omega), R, Step.refl .., L, o', c', hL, rfl, hlc, hcc, hex, hof⟩
  rename_i hn
  split at hv
  · -- there is room
    rename_i hroom
    split at hv
    case h_2 => cases hv
    rename_i j o
    split at hv
    case h_2 => cases hv
    rename_i cs t' hg
    split at hv
    case isFalse => cases hv
    rename_i hfit
    cases hv
    have hsz := hsz (by simp)
    subst hsz
    obtain ⟨L, o', c', hL, rfl, hlc, hcc, hex, hof⟩ := hx
    have ho : o' = L.s + o ∧ (ex = true ∨ o' + c' * i.size ≤ L.n) := by
      rcases hof with h | h
      · omega
      · exact h
    have hmul : (len + n) * i.size = len * i.size + n * i.size := Nat.add_mul ..
    obtain ⟨w', hst, r1, r2⟩ := store_run (o := o + len * i.size) R hg hL hys (by omega) P
    refine ⟨.slice (some ⟨L.b, o', none⟩) (len + n) c', w', ρ, hA _ len c' rfl (by omega) w' ?_, r1, r2, L, o', c', hL, rfl, by omega, hcc, hex, .inr ho⟩
    simp only [add_none]
    rw [ho.1, Nat.add_assoc, hst]
  rename_i hroom
  split at hv
  · cases hv
  rename_i hbound
  simp only [not_or, Nat.not_lt, gt_iff_lt] at hbound
  split at hv
  · -- nil
    split at hv
    case isFalse => cases hv
    rename_i hl0
    cases hv
    obtain ⟨_, hcap, _, rfl⟩ := hx
    obtain ⟨rfl, rfl⟩ := hl0
    obtain ⟨newCap, hle, hr⟩ := grow none 0 [] [] rfl (by omega) hbound.1 hbound.2 .nil (by simp) (by simp [Builtin.firstCells])
    have m := hmade newCap [] [] .nil (by simp) hle ρ (fun _ _ h => h) rfl
    simp only [List.nil_append, Nat.zero_add] at m hr
    obtain ⟨r1, r2, r3⟩ := new_rel R (hn0 (by simp)) m
    exact ⟨_, _, _, hr, r1, r2, r3⟩
  · rename_i j o
    split at hv
    case h_2 => cases hv
    rename_i cs t' ro hg
    split at hv
    case isFalse => cases hv
    rename_i hfit
    have hsz := hsz (by simp)
    subst hsz
    have hxx := hx
    obtain ⟨L, o', c', hL, rfl, hlc, hcc, hex, hof⟩ := hx
    have hcl : cellsAt h j o (len * i.size) = some ((cs.drop o).take (len * i.size)) := by unfold cellsAt; rw [hg]; simp only; rw [if_pos hfit]
    have hsrc : srcCells h i.size (.s (.sl (some (j, o)) len cap ex i.size)) = some ((cs.drop o).take (len * i.size)) := by simp only [srcCells, if_true]; exact hcl
    obtain ⟨old, hold, holdl, _, hfc0⟩ := src_run R hsrc rfl hxx
    have hfc : ∀ w' : World, (∀ b, b < w.heap.size → w'.heap[b]? = w.heap[b]?) → (Builtin.firstCells i.size len (.slice (some ⟨L.b, o', none⟩) len c')).run P w' = .ok old.toArray w' := by
      intro w' hw'
      have hb := R.lt j L hL
      have hR' : Rel ρ h w' → True := fun _ => trivial
      have e := hfc0 P len (Nat.le_refl _)
      rw [List.take_of_length_le (by rw [← hold.length, holdl]; exact Nat.le_refl _)] at e
      simp only [Builtin.firstCells] at e ⊢
      have : ∀ (k q : Nat) (acc : Array Value), (loadCellsFrom ⟨L.b, o', none⟩ q k acc).run P w = .ok old.toArray w → (loadCellsFrom ⟨L.b, o', none⟩ q k acc).run P w' = .ok old.toArray w' := by
        intro k
        induction k with
        | zero => intro q acc hq; simp only [loadCellsFrom, Sem.run_pure, Result.ok.injEq] at hq ⊢; exact ⟨hq.1, trivial⟩
        | succ k ih =>
          intro q acc hq
          simp only [loadCellsFrom, Sem.run_bind, add_none, run_load] at hq ⊢
          have hc : w'.cell? ⟨L.b, o' + q, none⟩ = w.cell? ⟨L.b, o' + q, none⟩ := by simp only [World.cell?, hw' _ hb]
          rw [hc]
          cases hcq : w.cell? ⟨L.b, o' + q, none⟩ with
          | some v => rw [hcq] at hq; simp only [Result.andThen_ok] at hq ⊢; exact ih _ _ hq
          | none =>
            exfalso
            rw [hcq] at hq
            simp only at hq
            obtain ⟨c, t2, fz, hbk, _⟩ := R.objs j _ L hg hL
            have hfar : w.farLoad P ⟨L.b, o' + q, none⟩ ((Mode.plain == Mode.atomic)) = .error (w.noCell ⟨L.b, o' + q, none⟩ "load: no such cell") := by
              simp [World.farLoad, hbk]
            rw [hfar] at hq
            simp [Result.andThen] at hq
      exact this _ _ _ e
    split at hv
    · -- its capacity is known: a new row
      rename_i hexx
      cases hv
      have hc' := hex hexx
      obtain ⟨newCap, hle, hr⟩ := grow (some ⟨L.b, o', none⟩) c' old _ rfl (by omega) hbound.1 hbound.2 hold (by rw [holdl]) (hfc w.drew (fun _ _ => rfl))
      obtain ⟨r1, r2, r3⟩ := new_rel R (hn0 (by simp)) (hmade newCap old _ hold holdl hle ρ (fun _ _ h => h) rfl)
      exact ⟨_, _, _, hr, r1, r2, r3⟩
    · rename_i hexx
      split at hv
      · cases hv
      rename_i hro
      simp only [not_or, Bool.not_eq_true] at hro
      obtain ⟨rfl, _⟩ := hro
      cases hv
      by_cases hin : len + n ≤ c'
      · -- in place, under a new number
        have ho : o' = L.s + o ∧ o' + c' * i.size ≤ L.n := by
          rcases hof with h | ⟨h1, h2⟩
          · omega
          · exact ⟨h1, h2.resolve_left (by simpa using hexx)⟩
        obtain ⟨c, t2, fz, hb, hs, hnn, hcell, hfz⟩ := R.objs j _ L hg hL
        have hfz' := hfz rfl
        have hmul : (len + n) * i.size = len * i.size + n * i.size := Nat.add_mul ..
        have hmul2 : (len + n) * i.size ≤ c' * i.size := Nat.mul_le_mul_right _ hin
        have hst := run_stores P (b := L.b) (o := o' + len * i.size) ys 0 c w hb (by omega) (fun q hq => hfz' q (by omega)) (all2_oneCell hys)
        have hbl := R.lt j L hL
        have hlen2 := hold.length
        obtain ⟨r1, r2⟩ := adopt_rel R (hn0 (by simp)) (L' := ⟨L.b, L.s + o, L.n⟩) (b := .cells (spliceV c (o' + len * i.size) ys) t2 fz) (ob := .cells ((cs.drop o).take (len * i.size) ++ xs) el false) hg hL (.inl ⟨_, _, hg⟩) rfl (by
          refine ⟨_, _, _, putBlk_at _ hbl, by rw [spliceV_size (by omega)]; exact hs, ?_, fun q v hq => ?_, fun _ => hfz'⟩
          · simp only [List.length_append, holdl, hxl]; omega
          · rw [spliceV_get (by omega)]
            rw [List.getElem?_append] at hq
            simp only [holdl] at hq
            split at hq
            · rename_i hqq
              rw [if_neg (by simp only; omega)]
              rw [List.getElem?_take, if_pos hqq, List.getElem?_drop] at hq
              obtain ⟨y, hy, hrel⟩ := hcell _ _ hq
              exact ⟨y, by rw [← hy]; congr 1; simp only; omega, hrel⟩
            · rename_i hqq
              obtain ⟨y, hy, hrel⟩ := hys.get _ _ hq
              have hql : q - len * i.size < xs.length := by
                rcases Nat.lt_or_ge (q - len * i.size) xs.length with z | z
                · exact z
                · rw [List.getElem?_eq_none z] at hq; cases hq
              rw [if_pos (by simp only; omega)]
              exact ⟨y, by rw [← hy]; congr 1; simp only; omega, hrel⟩)
        refine ⟨.slice (some ⟨L.b, o', none⟩) (len + n) c', _, _, hA _ len c' rfl hin _ ?_, r1, r2, ⟨L.b, L.s + o, L.n⟩, o', c', by simp [Ren.set], rfl, Nat.le_refl _, hin, fun h => by simp at h, .inr ⟨by simp only; omega, .inr ho.2⟩⟩
        simp only [add_none]
        rw [Nat.add_zero] at hst
        exact hst
      · -- a new row; the elder one is let go
        obtain ⟨newCap, hle, hr⟩ := grow (some ⟨L.b, o', none⟩) c' old _ rfl (by omega) hbound.1 hbound.2 hold (by rw [holdl]) (hfc w.drew (fun _ _ => rfl))
        obtain ⟨d1, d2⟩ := del_rel R hL
        obtain ⟨r1, r2, r3⟩ := new_rel d1 (by rw [H.nx_del]; exact hn0 (by simp)) (hmade newCap old _ hold holdl hle ρ (fun _ _ h => h) rfl)
        exact ⟨_, _, _, hr, r1, d2.trans d1 r2, r3⟩

end
end Go.AM
