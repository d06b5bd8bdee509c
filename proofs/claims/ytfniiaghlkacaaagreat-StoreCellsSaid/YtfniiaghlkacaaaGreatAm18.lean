/- A region whose order is open: what is known ahead of its run. -/
import Derived.Test.YtfniiaghlkacaaaGreatAm17
import Derived.Orders
namespace Go.AM
open Go
set_option linter.unusedSimpArgs false

/-! ### edges -/

def stepB (acc : Array Nat) (o : Oper) : Array Nat :=
  acc.push (o.after.foldl (fun s e => if Region.binds .any e then s ||| 2 ^ e.on ||| acc.getD e.on 0 else s) 0)

theorem before_eq (ops : Array Oper) : Region.before ops = ops.toList.foldl stepB #[] := by
  unfold Region.before
  rw [← Array.foldl_toList]
  rfl

theorem fold_bit {acc : Array Nat} {k : Nat} : ∀ (l : List Edge) (s : Nat), (l.foldl (fun s e => if Region.binds .any e then s ||| 2 ^ e.on ||| acc.getD e.on 0 else s) s).testBit k = true →
    s.testBit k = true ∨ ∃ e ∈ l, Region.binds .any e = true ∧ (e.on = k ∨ (acc.getD e.on 0).testBit k = true)
  | [], s, h => .inl h
  | e :: l, s, h => by
    rw [List.foldl_cons] at h
    rcases fold_bit l _ h with q | ⟨e', h1, h2⟩
    · split at q
      · rename_i hb
        simp only [Nat.testBit_or, Bool.or_eq_true, Nat.testBit_two_pow, decide_eq_true_eq] at q
        rcases q with (q | q) | q
        · exact .inl q
        · exact .inr ⟨e, by simp, hb, .inl q⟩
        · exact .inr ⟨e, by simp, hb, .inr q⟩
      · exact .inl q
    · exact .inr ⟨e', by simp [h1], h2⟩

theorem getD_push {acc : Array Nat} {x j : Nat} : (acc.push x).getD j 0 = if j = acc.size then x else acc.getD j 0 := by
  simp only [Array.getD_eq_getD_getElem?, Array.getElem?_push]
  split <;> rfl

theorem stepB_getD {acc : Array Nat} {o : Oper} {j : Nat} : (stepB acc o).getD j 0 = if j = acc.size then o.after.toList.foldl (fun s e => if Region.binds .any e then s ||| 2 ^ e.on ||| acc.getD e.on 0 else s) 0 else acc.getD j 0 := by
  unfold stepB
  rw [getD_push, Array.foldl_toList]

theorem before_size : ∀ (l : List Oper) (acc : Array Nat), (l.foldl stepB acc).size = acc.size + l.length
  | [], acc => rfl
  | o :: l, acc => by
    rw [List.foldl_cons, before_size l]
    simp [stepB]; omega

theorem before_spec : ∀ (n : Nat) (l : List Oper), l.length = n → ∀ (j k : Nat), ((l.foldl stepB #[]).getD j 0).testBit k = true →
    ∃ o, l[j]? = some o ∧ ∃ e ∈ o.after.toList, Region.binds .any e = true ∧ (e.on = k ∨ (e.on < j ∧ ((l.foldl stepB #[]).getD e.on 0).testBit k = true))
  | 0, l, hl, j, k, h => by
    have : l = [] := List.length_eq_zero_iff.1 hl
    subst this
    simp at h
  | n + 1, l, hl, j, k, h => by
    obtain ⟨l0, o, rfl⟩ : ∃ l0 o, l = l0 ++ [o] := by
      refine ⟨l.dropLast, l.getLast (by intro q; subst q; simp at hl), (List.dropLast_concat_getLast _).symm⟩
    have hl0 : l0.length = n := by simpa using hl
    have hsz : (l0.foldl stepB #[]).size = n := by rw [before_size]; simpa using hl0
    rw [List.foldl_append] at h ⊢
    simp only [List.foldl_cons, List.foldl_nil] at h ⊢
    have hge : ∀ i, n ≤ i → (l0.foldl stepB #[]).getD i 0 = 0 := by
      intro i hi
      rw [Array.getD_eq_getD_getElem?, Array.getElem?_eq_none (by omega)]; rfl
    have hpush : ∀ i, i < n → (stepB (l0.foldl stepB #[]) o).getD i 0 = (l0.foldl stepB #[]).getD i 0 := by
      intro i hi
      rw [stepB_getD, if_neg (by omega)]
    by_cases hj : j = n
    · subst hj
      rw [stepB_getD, if_pos hsz.symm] at h
      rcases fold_bit _ _ h with q | ⟨e, h1, h2, h3⟩
      · simp at q
      · refine ⟨o, by simp [← hl0], e, h1, h2, ?_⟩
        rcases h3 with h3 | h3
        · exact .inl h3
        · have hlt : e.on < j := by
            rcases Nat.lt_or_ge e.on j with q | q
            · exact q
            · rw [hge _ q] at h3; simp at h3
          exact .inr ⟨hlt, by rw [hpush _ hlt]; exact h3⟩
    · have hlt : j < n := by
        rcases Nat.lt_or_ge j n with q | q
        · exact q
        · rw [stepB_getD, if_neg (by omega), hge _ q] at h; simp at h
      rw [hpush _ hlt] at h
      obtain ⟨o', h1, e, h2, h3, h4⟩ := before_spec n l0 hl0 j k h
      refine ⟨o', ?_, e, h2, h3, ?_⟩
      · rw [List.getElem?_append, if_pos (by omega)]; exact h1
      · rcases h4 with h4 | ⟨h4, h5⟩
        · exact .inl h4
        · exact .inr ⟨h4, by rw [hpush _ (by omega)]; exact h5⟩

/-- What is done is closed under the edges; so all that must lie ahead of an operation is done. -/
theorem before_closed {ops : Array Oper} {S : Nat → Prop} {i : Nat} (hS : ∀ j o, ops[j]? = some o → (S j ∨ j = i) → ∀ e ∈ o.after.toList, Region.binds .any e = true → S e.on) :
    ∀ (n j : Nat), j < n → (S j ∨ j = i) → ∀ k, ((Region.before ops).getD j 0).testBit k = true → S k
  | 0, _, h, _, _, _ => by omega
  | n + 1, j, hj, hd, k, h => by
    rw [before_eq] at h
    obtain ⟨o, h1, e, h2, h3, h4⟩ := before_spec _ ops.toList rfl j k h
    have hSe := hS j o (by simpa using h1) hd e h2 h3
    rcases h4 with rfl | ⟨h4, h5⟩
    · exact hSe
    · rw [← before_eq] at h5
      exact before_closed hS n e.on (by omega) (.inl hSe) k h5

/-! ### an order for all -/

theorem pass_sub {md : Region.Mode} {ops : Array Oper} {S : Nat → Prop} (hS : ∀ j o, ops[j]? = some o → (∀ e ∈ o.after.toList, Region.binds md e = true → S e.on) → S j) :
    ∀ (l : List Oper) (i d : Nat), (∀ j, l[j]? = ops[i + j]? ∨ l.length ≤ j) → (∀ k, d.testBit k = true → S k) → ∀ k, (pass md l i d).testBit k = true → S k
  | [], i, d, _, hd, k, h => hd k h
  | o :: l, i, d, hl, hd, k, h => by
    refine pass_sub hS l (i + 1) _ ?_ ?_ k h
    · intro j
      rcases hl (j + 1) with q | q
      · rw [List.getElem?_cons_succ] at q
        left; rw [q]; congr 1; omega
      · right; simpa using q
    · intro k hk
      split at hk
      · rename_i hall
        simp only [Nat.testBit_or, Bool.or_eq_true, Nat.testBit_two_pow, decide_eq_true_eq] at hk
        rcases hk with hk | rfl
        · exact hd k hk
        · have ho : ops[i]? = some o := by
            rcases hl 0 with q | q
            · simpa using q.symm
            · simp at q
          refine hS i o ho fun e he hb => ?_
          have := List.all_eq_true.1 hall e he
          simp only [hb, Bool.not_true, Bool.false_or] at this
          exact hd _ this
      · exact hd k hk

theorem passes_sub {md : Region.Mode} {ops : Array Oper} {S : Nat → Prop} (hS : ∀ j o, ops[j]? = some o → (∀ e ∈ o.after.toList, Region.binds md e = true → S e.on) → S j) :
    ∀ (k d : Nat), (∀ i, d.testBit i = true → S i) → ∀ i, (passes md ops.toList k d).testBit i = true → S i
  | 0, d, hd, i, h => hd i h
  | k + 1, d, hd, i, h => by
    simp only [passes] at h
    split at h
    · exact hd i h
    · exact passes_sub hS k _ (pass_sub hS ops.toList 0 d (fun j => by simp) hd) i h

theorem full_spec {md : Region.Mode} {ops : Array Oper} (hf : full md ops = true) {S : Nat → Prop} (hS : ∀ j o, ops[j]? = some o → (∀ e ∈ o.after.toList, Region.binds md e = true → S e.on) → S j) : ∀ i, i < ops.size → S i := by
  intro i hi
  unfold full at hf
  have := List.all_eq_true.1 hf i (by simpa using hi)
  exact passes_sub hS _ _ (fun j hj => by simp at hj) i this

/-! ### operations that clash -/

theorem tidy_past : ∀ {os : List Or} {i : Nat} {past : List (Nat × Or)}, tidy os i past = true → ∀ (b : Nat) (o : Or), os[b]? = some o → ∀ p ∈ past, clash p.2 o = true → o.bef.testBit p.1 = true
  | [], _, _, _, b, o, hb, _, _, _ => by simp at hb
  | q :: os, i, past, h, b, o, hb, p, hp, hc => by
    simp only [tidy, Bool.and_eq_true] at h
    cases b with
    | zero =>
      simp at hb; subst hb
      have := List.all_eq_true.1 h.1.2 p hp
      simpa [hc] using this
    | succ b => exact tidy_past h.2 b o (by simpa using hb) p (by simp [hp]) hc

theorem tidy_spec : ∀ {os : List Or} {i : Nat} {past : List (Nat × Or)}, tidy os i past = true → ∀ (a b : Nat) (p o : Or), a < b → os[a]? = some p → os[b]? = some o → clash p o = true → o.bef.testBit (i + a) = true
  | [], _, _, _, a, b, p, o, _, ha, _, _ => by simp at ha
  | q :: os, i, past, h, a, b, p, o, hab, ha, hb, hc => by
    simp only [tidy, Bool.and_eq_true] at h
    obtain ⟨b, rfl⟩ : ∃ c, b = c + 1 := ⟨b - 1, by omega⟩
    cases a with
    | zero =>
      simp at ha; subst ha
      exact tidy_past h.2 b o (by simpa using hb) (i, q) (by simp) hc
    | succ a =>
      have := tidy_spec h.2 a b p o (by omega) (by simpa using ha) (by simpa using hb) hc
      rw [← this]; congr 1; omega

theorem tidy_rd : ∀ {os : List Or} {i : Nat} {past : List (Nat × Or)}, tidy os i past = true → ∀ (b : Nat) (o : Or), os[b]? = some o → rdT o.op = true
  | [], _, _, _, b, o, hb => by simp at hb
  | q :: os, i, past, h, b, o, hb => by
    simp only [tidy, Bool.and_eq_true] at h
    cases b with
    | zero => simp at hb; subst hb; exact h.1.1
    | succ b => exact tidy_rd h.2 b o (by simpa using hb)

/-! ### what an operation looks at -/

theorem ev_congr {e e' : Env} {x : X} (h : ∀ t ∈ x.tmps, e.get t = e'.get t) : x.ev e = x.ev e' := by
  cases x with
  | t n => exact h n (by simp [X.tmps])
  | c v => rfl

theorem evs_congr {e e' : Env} : ∀ {xs : List X}, (∀ t ∈ xsT xs, e.get t = e'.get t) → evs e xs = evs e' xs
  | [], _ => rfl
  | x :: xs, h => by
    simp only [xsT, List.flatMap_cons, List.forall_mem_append] at h
    simp only [evs, ev_congr h.1, evs_congr (xs := xs) h.2]

theorem addrs_congr {e e' : Env} : ∀ {xs : List X}, (∀ t ∈ xsT xs, e.get t = e'.get t) → addrs e xs = addrs e' xs
  | [], _ => rfl
  | x :: xs, h => by
    simp only [xsT, List.flatMap_cons, List.forall_mem_append] at h
    simp only [addrs, ev_congr h.1, addrs_congr (xs := xs) h.2]

theorem fill_congr {e e' : Env} : ∀ {ps : List (Nat × Nat × X)} {z : List SV}, (∀ t ∈ psT ps, e.get t = e'.get t) → fill e z ps = fill e' z ps
  | [], _, _ => rfl
  | (off, n, x) :: ps, z, h => by
    simp only [psT, List.flatMap_cons, List.forall_mem_append] at h
    simp only [fill, ev_congr h.1]
    have := fun z => fill_congr (ps := ps) (z := z) h.2
    simp only [this]

theorem bound_congr {e e' : Env} {d y : Nat} {x : Option X} (h : ∀ t ∈ oxT x, e.get t = e'.get t) : bound e d y x = bound e' d y x := by
  cases x with
  | none => rfl
  | some x =>
    have : x.ev e = x.ev e' := ev_congr h
    simp only [bound, this]

theorem slc_congr {e e' : Env} {sh : Sh} {x : AV} {lo hi hm : Option X} (h1 : ∀ t ∈ oxT lo, e.get t = e'.get t) (h2 : ∀ t ∈ oxT hi, e.get t = e'.get t) (h3 : ∀ t ∈ oxT hm, e.get t = e'.get t) : slc e sh x lo hi hm = slc e' sh x lo hi hm := by
  have b1 := fun d y => bound_congr (d := d) (y := y) h1
  have b2 := fun d y => bound_congr (d := d) (y := y) h2
  have b3 := fun d y => bound_congr (d := d) (y := y) h3
  unfold slc
  simp only [b1, b2, b3]

theorem step1_congr {cl : FuncId → List AV → H → Option (AV × H)} {e e' : Env} {h : H} {op : Op} (hh : ∀ t ∈ op.tmps, e.get t = e'.get t) : step1 cl e h op = step1 cl e' h op := by
  cases op <;> simp only [Op.tmps, List.forall_mem_append] at hh
  case alloc => rfl
  case mkmap => rfl
  case call => simp only [step1, Op.cls, actOp, evs_congr hh]
  case callv => simp only [step1, Op.cls, actOp, ev_congr hh.1, evs_congr hh.2]
  case mx => simp only [step1, Op.cls, pureOp, evs_congr hh]
  case mn => simp only [step1, Op.cls, pureOp, evs_congr hh]
  case build => simp only [step1, Op.cls, pureOp, fill_congr hh]
  case bslice => simp only [step1, Op.cls, makeOp, fill_congr hh]
  case mkfn => simp only [step1, Op.cls, pureOp, addrs_congr hh.1, addrs_congr hh.2]
  case slc => simp only [step1, Op.cls, pureOp, ev_congr hh.1, slc_congr hh.2.1 hh.2.2.1 hh.2.2.2]
  case pick => simp only [step1, Op.cls, pureOp, ev_congr hh.1, ev_congr hh.2.1, ev_congr hh.2.2]
  case mupd => simp only [step1, Op.cls, actOp, ev_congr hh.1, ev_congr hh.2.1, ev_congr hh.2.2]
  all_goals first
    | simp only [step1, Op.cls, pureOp, readOp, makeOp, actOp, ev_congr hh]
    | simp only [step1, Op.cls, pureOp, readOp, makeOp, actOp, ev_congr hh.1, ev_congr hh.2]

theorem wants_congr {e e' : Env} {g : Option (Nat × Bool)} (hh : ∀ t ∈ guardT g, e.get t = e'.get t) : wants e g = wants e' g := by
  cases g with
  | none => rfl
  | some g => simp only [wants, hh g.1 (by simp [guardT])]

/-- The slots that are named. -/
def keep (e : Env) : List Nat → Env
  | [] => .nil
  | t :: ts => (keep e ts).put t (e.get t)

theorem get_keep (e : Env) (n : Nat) : ∀ ts : List Nat, (keep e ts).get n = if n ∈ ts then e.get n else none
  | [] => by cases n <;> simp [keep, Tr.get]
  | t :: ts => by
    simp only [keep, Tr.get_put, get_keep e n ts, List.mem_cons]
    by_cases h : n = t
    · subst h; simp
    · simp [h]

/-! ### what a read looks at -/

theorem read_congr {e : Env} {h h' : H} {op : Op} (hg : h.get (rdId e op) = h'.get (rdId e op)) : readOp e h op = readOp e h' op := by
  have hc : ∀ {i : Nat}, h.get i = h'.get i → ∀ o n, cellsAt h i o n = cellsAt h' i o n := fun q o n => by simp only [cellsAt, q]
  unfold readOp
  split
  · split
    · rename_i hx
      simp only [rdId, hx] at hg
      rw [hc hg]
    · rfl
  · split
    · rename_i hx _
      simp only [rdId, hx] at hg
      simp only [hg]
    · rfl
  · split
    · rfl
    · rename_i hx
      simp only [rdId, hx] at hg
      simp only [hc hg]
    · rfl
  · rfl

/-- A read looks at a block that is known, or at none. -/
theorem read_known {ρ : Ren} {a : Act} {e : Env} {h : H} {op : Op} {v : AV} (r : EnvRel ρ e a.tmps) (hv : readOp e h op = some v) (ht : rdT op = true) : (∃ L, ρ (rdId e op) = some L) ∨ ∀ h', readOp e h' op = some v := by
  have hev : ∀ {n : Nat} {u : AV}, (X.t n).ev e = some u → ∃ x, VRel ρ u x := fun {n u} hu => let ⟨x, _, q⟩ := r n u hu; ⟨x, q⟩
  unfold readOp at hv
  split at hv
  · rename_i x
    cases x with
    | c => cases ht
    | t n =>
      split at hv
      · rename_i hx
        obtain ⟨x, L, hL, _⟩ := hev hx
        exact .inl ⟨L, by simp only [rdId, hx]; exact hL⟩
      · cases hv
  · rename_i x _ _
    cases x with
    | c => cases ht
    | t n =>
      split at hv
      · rename_i hx _
        obtain ⟨x, L, hL, _⟩ := hev hx
        exact .inl ⟨L, by simp only [rdId, hx]; exact hL⟩
      · cases hv
  · rename_i x
    cases x with
    | c => cases ht
    | t n =>
      split at hv
      · rename_i hx
        cases hv
        exact .inr fun h' => by simp only [readOp, hx]
      · rename_i hx
        obtain ⟨x, L, _, _, hL, _⟩ := hev hx
        exact .inl ⟨L, by simp only [rdId, hx]; exact hL⟩
      · cases hv
  · cases hv

end Go.AM
