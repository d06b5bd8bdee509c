/- A region whose order is open: the run in the text's order; what one operation does to a heap that runs beside it. -/
import Derived.Test.YtfniiaghlkacaaaGreatAm18
namespace Go.AM
open Go
set_option linter.unusedSimpArgs false

theorem early_spec {e : Env} {op : Op} {v : AV} {bef : Nat} : ∀ {past : List (Nat × H)}, past.Pairwise (fun a b => b.1 < a.1) → early e op v bef past = true → ∀ p ∈ past, (∀ q ∈ past, p.1 ≤ q.1 → bef.testBit q.1 = false) → p.2.nx ≤ rdId e op ∨ readOp e p.2 op = some v
  | [], _, _, p, hp, _ => by simp at hp
  | q :: past, hs, h, p, hp, hb => by
    obtain ⟨i, hh⟩ := q
    simp only [early, Bool.or_eq_true, Bool.and_eq_true, decide_eq_true_eq, beq_iff_eq] at h
    rw [List.pairwise_cons] at hs
    have hle : p.1 ≤ i := by
      rcases List.mem_cons.1 hp with rfl | hp
      · exact Nat.le_refl _
      · exact Nat.le_of_lt (hs.1 p hp)
    rcases h with h | ⟨h1, h2⟩
    · have := hb (i, hh) (by simp) hle
      simp only at this
      rw [this] at h; cases h
    · rcases List.mem_cons.1 hp with rfl | hp
      · exact h1
      · exact early_spec hs.2 h2 p hp fun q hq => hb q (by simp [hq])

theorem reread_spec {h : H} {bef : Nat} : ∀ {rds : List Rd}, reread h bef rds = true → ∀ r ∈ rds, bef.testBit r.i = true ∨ readOp r.e h r.op = some r.v
  | [], _, r, hr => by simp at hr
  | q :: rds, hh, r, hr => by
    simp only [reread, Bool.or_eq_true, Bool.and_eq_true, beq_iff_eq] at hh
    rcases List.mem_cons.1 hr with rfl | hr
    · exact hh.1
    · exact reread_spec hh.2 r hr

/-- The run in the text's order. -/
structure Trace (cl : FuncId → List AV → H → Option (AV × H)) (os : List Or) (i : Nat) (rds : List Rd) (past : List (Nat × H)) (E : Nat → Env) (G : Nat → H) : Prop where
  step : ∀ q o, os[q]? = some o → (wants (E q) o.guard = some false ∧ E (q + 1) = setD (E q) o.dst (some (.tup [])) ∧ G (q + 1) = G q) ∨
    (wants (E q) o.guard = some true ∧ ∃ v, step1 cl (E q) (G q) o.op = some (v, G (q + 1)) ∧ E (q + 1) = setD (E q) o.dst v)
  rd : ∀ q o v, os[q]? = some o → o.op.cls = .read → wants (E q) o.guard = some true → readOp (E q) (G q) o.op = some v → rdId (E q) o.op < (G q).nx ∧
    (∀ b p, b < q → os[b]? = some p → p.op.cls = .act → wants (E b) p.guard = some true → (∀ c p', b ≤ c → c < q → os[c]? = some p' → p'.op.cls = .act → o.bef.testBit (i + c) = false) → (G b).nx ≤ rdId (E q) o.op ∨ readOp (E q) (G b) o.op = some v) ∧
    (∀ p ∈ past, (∀ p' ∈ past, p.1 ≤ p'.1 → o.bef.testBit p'.1 = false) → (∀ c p', c < q → os[c]? = some p' → p'.op.cls = .act → o.bef.testBit (i + c) = false) → p.2.nx ≤ rdId (E q) o.op ∨ readOp (E q) p.2 o.op = some v)
  act : ∀ q o, os[q]? = some o → o.op.cls = .act → wants (E q) o.guard = some true →
    (∀ b p v, b < q → os[b]? = some p → p.op.cls = .read → wants (E b) p.guard = some true → readOp (E b) (G b) p.op = some v → o.bef.testBit (i + b) = true ∨ readOp (E b) (G (q + 1)) p.op = some v) ∧
    (∀ r ∈ rds, o.bef.testBit r.i = true ∨ readOp r.e (G (q + 1)) r.op = some r.v)

theorem trace_of {cl : FuncId → List AV → H → Option (AV × H)} : ∀ (os : List Or) (i : Nat) (rds : List Rd) (past : List (Nat × H)) (e : Env) (h : H) (e' : Env) (h' : H), past.Pairwise (fun a b => b.1 < a.1) → (∀ p ∈ past, p.1 < i) → runOpsD cl os i rds past e h = some (e', h') →
    ∃ E G, E 0 = e ∧ G 0 = h ∧ E os.length = e' ∧ G os.length = h' ∧ Trace cl os i rds past E G
  | [], i, rds, past, e, h, e', h', _, _, hr => by
    cases hr
    exact ⟨fun _ => e, fun _ => h, rfl, rfl, rfl, rfl, fun q o hq => by simp at hq, fun q o v hq => by simp at hq, fun q o hq => by simp at hq⟩
  | o :: os, i, rds, past, e, h, e', h', hs, hi, hr => by
    have key : ∃ v h1 rds' past', ((wants e o.guard = some false ∧ v = some (.tup []) ∧ h1 = h) ∨ (wants e o.guard = some true ∧ step1 cl e h o.op = some (v, h1))) ∧
        runOpsD cl os (i + 1) rds' past' (setD e o.dst v) h1 = some (e', h') ∧
        (wants e o.guard = some true → o.op.cls = .read → ∀ u, readOp e h o.op = some u → rdId e o.op < h.nx ∧ early e o.op u o.bef past = true ∧ (⟨e, o.op, u, i⟩ : Rd) ∈ rds') ∧
        (wants e o.guard = some true → o.op.cls = .act → reread h1 o.bef rds = true ∧ (i, h) ∈ past') ∧ (∀ r ∈ rds, r ∈ rds') ∧ (∀ p ∈ past, p ∈ past') ∧ (∀ p ∈ past', p ∈ past ∨ (p = (i, h) ∧ o.op.cls = .act)) ∧ past'.Pairwise (fun a b => b.1 < a.1) ∧ (∀ p ∈ past', p.1 < i + 1) := by
      have hi' : ∀ p ∈ past, p.1 < i + 1 := fun p hp => Nat.lt_succ_of_lt (hi p hp)
      simp only [runOpsD] at hr
      split at hr
      · rename_i hw
        split at hr
        case h_2 => cases hr
        rename_i v h1 hs1
        have hrd : o.op.cls = .read → ∀ u, readOp e h o.op = some u → v = some u ∧ h1 = h := by
          intro hc u hu
          simp only [step1, hc, hu] at hs1
          cases hs1; exact ⟨rfl, rfl⟩
        split at hr
        · rename_i u hc
          split at hr
          case isFalse => cases hr
          rename_i hk
          refine ⟨_, _, _, _, .inr ⟨hw, hs1⟩, hr, fun _ _ u' hu' => ?_, fun _ hc' => ?_, fun r hr => by simp [hr], fun _ h => h, fun _ h => .inl h, hs, hi'⟩
          · obtain ⟨q1, _⟩ := hrd hc u' hu'
            cases q1
            exact ⟨hk.1, hk.2, by simp⟩
          · rw [hc] at hc'; cases hc'
        · rename_i hc
          split at hr
          case isFalse => cases hr
          rename_i hk
          refine ⟨_, _, _, _, .inr ⟨hw, hs1⟩, hr, (fun _ hc' => by rw [hc] at hc'; cases hc'), fun _ _ => ⟨hk, by simp⟩, fun _ h => h, fun p hp => by simp [hp], fun p hp => (List.mem_cons.1 hp).elim (fun q => .inr ⟨q, hc⟩) .inl, ?_, ?_⟩
          · rw [List.pairwise_cons]; exact ⟨fun p hp => hi p hp, hs⟩
          · intro p hp
            rcases List.mem_cons.1 hp with rfl | hp
            · exact Nat.lt_succ_self _
            · exact hi' p hp
        · rename_i hn1 hn2
          refine ⟨_, _, _, _, .inr ⟨hw, hs1⟩, hr, fun _ hc u hu => ?_, fun _ hc => (hn1 hc).elim, fun _ h => h, fun _ h => h, fun _ h => .inl h, hs, hi'⟩
          exact (hn2 u hc (hrd hc u hu).1).elim
      · rename_i hw
        exact ⟨_, _, _, _, .inl ⟨hw, rfl, rfl⟩, hr, (fun q => by rw [hw] at q; cases q), (fun q => by rw [hw] at q; cases q), fun _ h => h, fun _ h => h, fun _ h => .inl h, hs, hi'⟩
      · cases hr
    obtain ⟨v, h1, rds', past', hstep, hr, hread, hact, hsub1, hsub2, hsub3, hs', hi'⟩ := key
    obtain ⟨E, G, hE, hG, hE', hG', T⟩ := trace_of os (i + 1) rds' past' _ _ e' h' hs' hi' hr
    refine ⟨fun q => match q with | 0 => e | q + 1 => E q, fun q => match q with | 0 => h | q + 1 => G q, rfl, rfl, hE', hG', ?_, ?_, ?_⟩
    · intro q p hq
      cases q with
      | zero =>
        simp at hq; subst hq
        simp only [hE, hG]
        rcases hstep with ⟨a, b, c⟩ | ⟨a, b⟩
        · subst b c; exact .inl ⟨a, rfl, rfl⟩
        · exact .inr ⟨a, v, b, rfl⟩
      | succ q => exact T.step q p (by simpa using hq)
    · intro q p u hq hc hw hu
      cases q with
      | zero =>
        simp at hq; subst hq
        obtain ⟨a, b, _⟩ := hread hw hc u hu
        refine ⟨a, fun b p hb => by omega, fun p hp hb _ => ?_⟩
        exact early_spec hs b p hp hb
      | succ q =>
        obtain ⟨a, b, c⟩ := T.rd q p u (by simpa using hq) hc hw hu
        refine ⟨a, fun k p' hk hp' hc' hw' hb => ?_, fun p' hp' hb hb2 => c p' (hsub2 p' hp') (fun p2 hp2 hle => ?_) fun k p2 h1 h2 h3 => ?_⟩
        · cases k with
          | zero =>
            simp at hp'; subst hp'
            refine c (i, h) (hact hw' hc').2 (fun p2 hp2 hle => ?_) fun k p2 h1 h2 h3 => ?_
            · rcases hsub3 p2 hp2 with q1 | ⟨rfl, q1⟩
              · have := hi p2 q1
                simp only at hle; omega
              · have := hb 0 o (Nat.le_refl _) (by omega) (by simp) q1
                exact this
            · have := hb (k + 1) p2 (by omega) (by omega) (by simpa using h2) h3
              rwa [show i + (k + 1) = i + 1 + k by omega] at this
          | succ k =>
            refine b k p' (by omega) (by simpa using hp') hc' hw' fun c p2 h1 h2 h3 h4 => ?_
            have := hb (c + 1) p2 (by omega) (by omega) (by simpa using h3) h4
            rwa [show i + (c + 1) = i + 1 + c by omega] at this
        · rcases hsub3 p2 hp2 with q1 | ⟨rfl, q1⟩
          · exact hb p2 q1 hle
          · have := hb2 0 o (by omega) (by simp) q1
            exact this
        · have := hb2 (k + 1) p2 (by omega) (by simpa using h2) h3
          rwa [show i + (k + 1) = i + 1 + k by omega] at this
    · intro q p hq hc hw
      cases q with
      | zero =>
        simp at hq; subst hq
        refine ⟨fun b p v hb => by omega, fun r hr => ?_⟩
        simp only [hG]
        exact reread_spec (hact hw hc).1 r hr
      | succ q =>
        obtain ⟨a, b⟩ := T.act q p (by simpa using hq) hc hw
        refine ⟨fun k p' u hk hp' hc' hw' hu => ?_, fun r hr => b r (hsub1 r hr)⟩
        cases k with
        | zero =>
          simp at hp'; subst hp'
          exact b _ (hread hw' hc' u hu).2.2
        | succ k =>
          have := a k p' u (by omega) (by simpa using hp') hc' hw' hu
          rwa [show i + (k + 1) = i + 1 + k by omega]

/-! ### heaps side by side -/

def trFn {α : Type} (f : Nat → Option α) : Nat → Tr α
  | 0 => .nil
  | n + 1 => (trFn f n).put n (f n)

theorem get_trFn {α : Type} (f : Nat → Option α) : ∀ (n i : Nat), (trFn f n).get i = if i < n then f i else none
  | 0, i => by cases i <;> simp [trFn, Tr.get]
  | n + 1, i => by
    simp only [trFn, Tr.get_put, get_trFn f n]
    by_cases h : i = n
    · subst h; simp
    · simp only [h, if_false]
      by_cases h2 : i < n
      · rw [if_pos h2, if_pos (by omega)]
      · rw [if_neg h2, if_neg (by omega)]

def H.of (n : Nat) (f : Nat → Option AO) : H := ⟨trFn f n, n⟩
theorem H.get_of (n : Nat) (f : Nat → Option AO) (i : Nat) : (H.of n f).get i = if i < n then f i else none := get_trFn f n i
@[simp] theorem H.nx_of (n : Nat) (f : Nat → Option AO) : (H.of n f).nx = n := rfl

section
variable {P : Program} {ρ ρ0 : Ren} {h0 X : H} {w0 w : World}

theorem Own.congr {h h' : H} {i : Nat} (hg : h.get i = h'.get i) (o : Own h i) : Own h' i := by
  unfold Own at *; rwa [hg] at o

theorem Rel.shift (R : Rel ρ X w) {X' : H} (hx : ∀ i L, ρ i = some L → X'.get i = X.get i) (hwf : ∀ i, X'.nx ≤ i → X'.get i = none) : Rel ρ X' w where
  objs := fun i o L hi hL => R.objs i o L (by rw [← hx i L hL]; exact hi) hL
  inj := fun i j Li Lj hij hi hj hLi hLj => R.inj i j Li Lj hij (by rw [← hx i Li hLi]; exact hi) (by rw [← hx j Lj hLj]; exact hj) hLi hLj
  lt := R.lt
  wf := hwf

theorem Step.shift (S : Step ρ0 h0 w0 ρ X w) {X' : H} (hx : ∀ i, i < h0.nx → X'.get i = X.get i) (hn : X'.nx = X.nx) : Step ρ0 h0 w0 ρ X' w :=
  { S with far := fun i hi => S.far i (by rwa [← hn]), newb := fun i L h1 h2 => S.newb i L h1 (by rwa [← hn]), live := fun i hi o => S.live i hi (o.congr (hx i hi)), ghost := fun i hi hg => (hx i hi).trans (S.ghost i hi hg), dead := fun i hi hd => (hx i hi).trans (S.dead i hi hd), nx := by rw [hn]; exact S.nx }

/-- A heap of which a part was run on. -/
def mix (Y X : H) : H := H.of X.nx fun i => if i < Y.nx then Y.get i else X.get i

theorem graft (R : Rel ρ X w) (S : Step ρ0 h0 w0 ρ X w) {Y Y' : H} (hY : ∀ i, Y.nx ≤ i → Y.get i = none) (hXY : ∀ i, i < Y.nx → X.get i = Y.get i) (h1 : h0.nx ≤ Y.nx) (h2 : Y.nx ≤ Y'.nx) (h3 : Y'.nx ≤ X.nx) (F : Fresh ρ Y Y') :
    Rel ρ Y w ∧ ∀ ρ' w', Rel ρ' Y' w' → Step ρ Y w ρ' Y' w' → Rel ρ' (mix Y' X) w' ∧ Step ρ0 h0 w0 ρ' (mix Y' X) w' := by
  have lt : ∀ {i}, (Y.get i).isSome → i < Y.nx := by
    intro i hi
    rcases Nat.lt_or_ge i Y.nx with q | q
    · exact q
    · rw [hY i q] at hi; cases hi
  have hget : ∀ i, (Y.get i).isSome → X.get i = Y.get i := fun i hi => hXY i (lt hi)
  refine ⟨⟨fun i o L hi hL => R.objs i o L (by rw [hget i (by simp [hi])]; exact hi) hL, fun i j Li Lj hij hi hj => R.inj i j Li Lj hij (by rw [hget i hi]; exact hi) (by rw [hget j hj]; exact hj), R.lt, hY⟩, ?_⟩
  intro ρ' w' R' S'
  have hle := S'.le F
  have gm : ∀ i, (mix Y' X).get i = if i < X.nx then (if i < Y'.nx then Y'.get i else X.get i) else none := fun i => H.get_of ..
  have glo : ∀ i, i < Y'.nx → (mix Y' X).get i = Y'.get i := fun i hi => by rw [gm, if_pos (by omega), if_pos hi]
  have ghi : ∀ i, Y'.nx ≤ i → (mix Y' X).get i = X.get i := fun i hi => by
    rw [gm]
    by_cases q : i < X.nx
    · rw [if_pos q, if_neg (by omega)]
    · rw [if_neg q, R.wf i (by omega)]
  have own : ∀ {i}, Own Y i → Own X i := fun {i} o => o.congr (hget i o.some).symm
  -- a block that waits beside is not written
  have beside : ∀ {k L}, Y'.nx ≤ k → (X.get k).isSome → ρ k = some L → w'.heap[L.b]? = w.heap[L.b]? := by
    intro k L hk hX hL
    refine S'.kept L.b (R.lt k L hL) ?_
    intro i L' hL' ho
    have := lt ho.some
    exact R.inj i k L' L (by omega) (own ho).some hX hL' hL
  have apart : ∀ {i k Li Lk}, i < Y'.nx → Y'.nx ≤ k → (Y'.get i).isSome → (X.get k).isSome → ρ' i = some Li → ρ k = some Lk → Li.b ≠ Lk.b := by
    intro i k Li Lk hi hk hY' hX hLi hLk
    have hlk := R.lt k Lk hLk
    rcases Nat.lt_or_ge i Y.nx with q | q
    · have hρ : ρ i = some Li := by rw [← S'.old i q]; exact hLi
      have hYi : (Y.get i).isSome := by
        cases hh : Y.get i with
        | none => rw [S'.dead i q hh] at hY'; cases hY'
        | some => rfl
      exact R.inj i k Li Lk (by omega) (by rw [hget i hYi]; exact hYi) hX hρ hLk
    · rcases S'.newb i Li q hi hLi with h | ⟨j, L0, hj, hoj, hb⟩
      · omega
      · rw [← hb]
        have := lt hoj.some
        exact R.inj j k L0 Lk (by omega) (own hoj).some hX hj hLk
  constructor
  · refine ⟨?_, ?_, R'.lt, ?_⟩
    · intro i o L hi hL
      rcases Nat.lt_or_ge i Y'.nx with q | q
      · rw [glo i q] at hi
        exact R'.objs i o L hi hL
      · rw [ghi i q] at hi
        rw [S'.far i q] at hL
        exact ((R.objs i o L hi hL).same (beside q (by simp [hi]) hL)).mono hle
    · intro i j Li Lj hij hi hj hLi hLj
      rcases Nat.lt_or_ge i Y'.nx with q | q
      · rw [glo i q] at hi
        rcases Nat.lt_or_ge j Y'.nx with q2 | q2
        · rw [glo j q2] at hj
          exact R'.inj i j Li Lj hij hi hj hLi hLj
        · rw [ghi j q2] at hj
          rw [S'.far j q2] at hLj
          exact apart q q2 hi hj hLi hLj
      · rw [ghi i q] at hi
        rw [S'.far i q] at hLi
        rcases Nat.lt_or_ge j Y'.nx with q2 | q2
        · rw [glo j q2] at hj
          exact (apart q2 q hj hi hLj hLi).symm
        · rw [ghi j q2] at hj
          rw [S'.far j q2] at hLj
          exact R.inj i j Li Lj hij hi hj hLi hLj
    · intro i hi
      rw [gm, if_neg (by simp [mix] at hi; omega)]
  · have hnm : (mix Y' X).nx = X.nx := rfl
    refine ⟨Nat.le_trans S.size S'.size, S'.os.trans S.os, S'.out.trans S.out, S'.tape.trans S.tape, ?_, ?_, ?_, ?_, ?_, ?_, ?_, S.nx⟩
    · intro b hb hno
      rw [S'.kept b (Nat.lt_of_lt_of_le hb S.size) ?_, S.kept b hb hno]
      intro i L hL ho hbb
      have hil := lt ho.some
      rcases Nat.lt_or_ge i h0.nx with q | q
      · exact hno i L (by rw [← S.old i q]; exact hL) (S.live i q (own ho)) hbb
      · rcases S.newb i L q (by omega) hL with h | ⟨j, L0, hj, hoj, hb'⟩
        · omega
        · exact hno j L0 hj hoj (hb'.trans hbb)
    · intro i hi
      exact (S'.old i (by omega)).trans (S.old i hi)
    · intro i hi
      rw [hnm] at hi
      exact (S'.far i (by omega)).trans (S.far i hi)
    · intro i L hi1 hi2 hL
      rw [hnm] at hi2
      have viaρ : ∀ j L0, ρ j = some L0 → j < X.nx → (j < h0.nx → Own X j) → L0.b = L.b → w0.heap.size ≤ L.b ∨ ∃ j L0, ρ0 j = some L0 ∧ Own h0 j ∧ L0.b = L.b := by
        intro j L0 hj hjn hoj hb
        rcases Nat.lt_or_ge j h0.nx with q | q
        · exact .inr ⟨j, L0, by rw [← S.old j q]; exact hj, S.live j q (hoj q), hb⟩
        · rw [← hb]; exact S.newb j L0 q hjn hj
      rcases Nat.lt_or_ge i Y.nx with q | q
      · exact viaρ i L (by rw [← S'.old i q]; exact hL) hi2 (fun q2 => by omega) rfl
      · rcases Nat.lt_or_ge i Y'.nx with q2 | q2
        · rcases S'.newb i L q q2 hL with h | ⟨j, L0, hj, hoj, hb⟩
          · exact .inl (Nat.le_trans S.size h)
          · exact viaρ j L0 hj (by have := lt hoj.some; omega) (fun _ => own hoj) hb
        · exact viaρ i L (by rw [← S'.far i q2]; exact hL) hi2 (fun q3 => by omega) rfl
    · intro i hi ho
      have ho' : Own Y' i := ho.congr (glo i (by omega))
      exact S.live i hi (own (S'.live i (by omega) ho'))
    · intro i hi hn
      rw [glo i (by omega), S'.ghost i (by omega) (by rw [S.old i hi]; exact hn), ← hXY i (by omega)]
      exact S.ghost i hi hn
    · intro i hi hn
      rw [glo i (by omega)]
      refine S'.dead i (by omega) ?_
      rw [← hXY i (by omega)]
      exact S.dead i hi hn
end
end Go.AM
