/- A region whose order is open. -/
import Derived.Test.YtfniiaghlkacaaaGreatAm18b
namespace Go.AM
open Go
set_option linter.unusedSimpArgs false

section
variable {P : Program} {cl : FuncId → List AV → H → Option (AV × H)} {os : List Or} {E : Nat → Env} {G : Nat → H} {ρ ρ0 : Ren} {h0 X : H} {w0 w : World} {a : Act} {S : Nat → Prop} {p : Nat}

/-- What is made in the text's order. -/
def Makes (os : List Or) (E : Nat → Env) (m : Nat) (ob : AO) : Prop := ∃ o f, os[m]? = some o ∧ o.op.cls = .make ∧ wants (E m) o.guard = some true ∧ makeOp (E m) o.op = some (ob, f)

/-- Behind which operation a slot stands. -/
def Top (os : List Or) (S : Nat → Prop) (t q : Nat) : Prop :=
  (q = 0 ∨ ∃ k o, q = k + 1 ∧ S k ∧ os[k]? = some o ∧ o.dst = some t) ∧ ∀ k o, S k → os[k]? = some o → o.dst = some t → k < q

structure Inv (os : List Or) (E : Nat → Env) (G : Nat → H) (ρ0 : Ren) (h0 : H) (w0 : World) (S : Nat → Prop) (p : Nat) (ρ : Ren) (X : H) (tm : Array Value) (w : World) : Prop where
  acts : ∀ q o, os[q]? = some o → o.op.cls = .act → (S q ↔ q < p)
  rel : Rel ρ X w
  step : Step ρ0 h0 w0 ρ X w
  nx : X.nx = (G os.length).nx
  wf : ∀ i, (G p).nx ≤ i → (G p).get i = none
  here : ∀ i, i < (G p).nx → X.get i = (G p).get i
  pend : ∀ m ob, p ≤ m → S m → Makes os E m ob → X.get (G m).nx = some ob
  only : ∀ i L, ρ i = some L → (G p).nx ≤ i → i < (G os.length).nx → ∃ m ob, p ≤ m ∧ S m ∧ Makes os E m ob ∧ i = (G m).nx
  ghost : ∀ m ob, m < p → ¬ S m → Makes os E m ob → ρ (G m).nx = none ∧ (G p).get (G m).nx = some ob
  env : ∀ t q u, Top os S t q → (E q).get t = some u → ∃ x, tm[t]? = some x ∧ VRel ρ u x
  ple : p ≤ os.length

theorem get_lt {q : Nat} {o : Or} (h : os[q]? = some o) : q < os.length := by
  rcases Nat.lt_or_ge q os.length with h' | h'
  · exact h'
  · rw [List.getElem?_eq_none h'] at h; cases h

theorem Makes.next (T : Trace cl os 0 [] [] E G) {m : Nat} {ob : AO} (h : Makes os E m ob) : G (m + 1) = (G m).new ob := by
  obtain ⟨o, f, h1, h2, h3, h4⟩ := h
  rcases T.step m o h1 with ⟨q, _⟩ | ⟨_, v, hs, _⟩
  · rw [h3] at q; cases q
  · simp only [step1, h2, h4, Option.some.injEq, Prod.mk.injEq] at hs
    exact hs.2.symm

theorem trace_nx (hcl : CallsOk P cl) (T : Trace cl os 0 [] [] E G) : ∀ (d q : Nat), q + d ≤ os.length → (G q).nx ≤ (G (q + d)).nx
  | 0, q, _ => Nat.le_refl _
  | d + 1, q, h => by
    refine Nat.le_trans (trace_nx hcl T d q (by omega)) ?_
    have hlt : q + d < os.length := by omega
    rcases T.step (q + d) os[q + d] (List.getElem?_eq_getElem hlt) with ⟨_, _, hg⟩ | ⟨_, v, hs, _⟩
    · rw [← Nat.add_assoc, hg]; exact Nat.le_refl _
    · exact step_nx hcl hs

theorem trace_le (hcl : CallsOk P cl) (T : Trace cl os 0 [] [] E G) {q r : Nat} (h : q ≤ r) (hr : r ≤ os.length) : (G q).nx ≤ (G r).nx := by
  have := trace_nx hcl T (r - q) q (by omega)
  rwa [show q + (r - q) = r by omega] at this

/-- An operation that is no action: nothing, or something new. -/
theorem quiet (T : Trace cl os 0 [] [] E G) {q : Nat} {o : Or} (ho : os[q]? = some o) (hc : o.op.cls ≠ .act ∨ wants (E q) o.guard = some false) : G (q + 1) = G q ∨ ∃ ob, Makes os E q ob ∧ G (q + 1) = (G q).new ob := by
  rcases T.step q o ho with ⟨_, _, hg⟩ | ⟨hw, v, hs, _⟩
  · exact .inl hg
  · have hne : o.op.cls ≠ .act := by
      rcases hc with hc | hc
      · exact hc
      · rw [hw] at hc; cases hc
    unfold step1 at hs
    split at hs
    · split at hs
      · simp only [Option.some.injEq, Prod.mk.injEq] at hs; exact .inl hs.2.symm
      · cases hs
    · split at hs
      · simp only [Option.some.injEq, Prod.mk.injEq] at hs; exact .inl hs.2.symm
      · cases hs
    · rename_i hk
      split at hs
      · rename_i ob f hm
        simp only [Option.some.injEq, Prod.mk.injEq] at hs; exact .inr ⟨ob, ⟨o, f, ho, hk, hw, hm⟩, hs.2.symm⟩
      · cases hs
    · rename_i hk; exact absurd hk hne

theorem Inv.inj (hcl : CallsOk P cl) (T : Trace cl os 0 [] [] E G) {m m' : Nat} {ob ob' : AO} (h : Makes os E m ob) (h' : Makes os E m' ob') (hn : (G m).nx = (G m').nx) : m = m' := by
  have key : ∀ {m m' : Nat} {ob ob' : AO}, Makes os E m ob → Makes os E m' ob' → m < m' → (G m).nx < (G m').nx := by
    intro m m' ob ob' h h' hlt
    obtain ⟨o', f', h1', _⟩ := h'
    have := trace_le hcl T (show m + 1 ≤ m' by omega) (Nat.le_of_lt (get_lt h1'))
    rw [h.next T, H.nx_new] at this
    omega
  rcases Nat.lt_trichotomy m m' with q | q | q
  · have := key h h' q; omega
  · exact q
  · have := key h' h q; omega

theorem Inv.one (hcl : CallsOk P cl) (T : Trace cl os 0 [] [] E G) (I : Inv os E G ρ0 h0 w0 S p ρ X a.tmps w) {o : Or} (ho : os[p]? = some o) (hc : o.op.cls ≠ .act) (hh0 : h0.nx ≤ (G p).nx) :
    ∃ X', Inv os E G ρ0 h0 w0 S (p + 1) ρ X' a.tmps w := by
  have hacts : ∀ q o, os[q]? = some o → o.op.cls = .act → (S q ↔ q < p + 1) := by
    intro q o' hq hca
    rw [I.acts q o' hq hca]
    have : q ≠ p := by rintro rfl; rw [ho] at hq; cases hq; exact hc hca
    omega
  have hlt := get_lt ho
  rcases quiet T ho (.inl hc) with hg | ⟨ob, hm, hg⟩
  · have hnm : ∀ ob, ¬ Makes os E p ob := by
      intro ob hm
      have := hm.next T
      rw [hg] at this
      have := congrArg H.nx this
      simp at this
    refine ⟨X, hacts, I.rel, I.step, I.nx, by rw [hg]; exact I.wf, by rw [hg]; exact I.here, fun m ob h1 => I.pend m ob (by omega), ?_, ?_, I.env, hlt⟩
    · intro i L hL h1 h2
      rw [hg] at h1
      obtain ⟨m, ob, h3, h4, h5, h6⟩ := I.only i L hL h1 h2
      refine ⟨m, ob, ?_, h4, h5, h6⟩
      rcases Nat.lt_or_ge p m with q | q
      · exact q
      · have : m = p := by omega
        subst this; exact absurd h5 (hnm ob)
    · intro m ob h1 h2 h3
      rw [hg]
      rcases Nat.lt_or_ge m p with q | q
      · exact I.ghost m ob q h2 h3
      · have : m = p := by omega
        subst this; exact absurd h3 (hnm ob)
  · have hN : (G p).nx < X.nx := by
      rw [I.nx]
      have := trace_le hcl T (show p + 1 ≤ os.length from hlt) (Nat.le_refl _)
      rw [hg, H.nx_new] at this; omega
    have hgn : (G (p + 1)).nx = (G p).nx + 1 := by rw [hg]; rfl
    have hX : ∀ i L, ρ i = some L → (X.set (G p).nx ob).get i = X.get i := by
      intro i L hL
      rw [H.get_set]
      split
      · rename_i q; subst q
        obtain ⟨m, ob', h3, h4, h5, h6⟩ := I.only _ L hL (Nat.le_refl _) (by rw [← I.nx]; exact hN)
        have := Inv.inj hcl T hm h5 h6
        subst this
        rw [I.pend _ _ h3 h4 hm]
      · rfl
    refine ⟨X.set (G p).nx ob, hacts, I.rel.shift hX ?_, I.step.shift ?_ rfl, I.nx, ?_, ?_, ?_, ?_, ?_, I.env, hlt⟩
    · intro i hi
      rw [H.nx_set] at hi
      rw [H.get_set, if_neg (by omega)]
      exact I.rel.wf i hi
    · intro i hi
      rw [H.get_set, if_neg (by omega)]
    · intro i hi
      rw [hgn] at hi
      rw [hg, H.get_new, if_neg (by omega)]
      exact I.wf i (by omega)
    · intro i hi
      rw [hgn] at hi
      rw [hg, H.get_new, H.get_set]
      by_cases q : i = (G p).nx
      · rw [if_pos q, if_pos q]
      · rw [if_neg q, if_neg q]; exact I.here i (by omega)
    · intro m ob' h1 h2 h3
      have := trace_le hcl T (show p + 1 ≤ m from h1) (Nat.le_of_lt (by obtain ⟨_, _, hq, _⟩ := h3; exact get_lt hq))
      rw [hgn] at this
      rw [H.get_set, if_neg (by omega)]
      exact I.pend m ob' (by omega) h2 h3
    · intro i L hL h1 h2
      rw [hgn] at h1
      obtain ⟨m, ob', h3, h4, h5, h6⟩ := I.only i L hL (by omega) h2
      refine ⟨m, ob', ?_, h4, h5, h6⟩
      rcases Nat.lt_or_ge p m with q | q
      · exact q
      · have : m = p := by omega
        subst this; omega
    · intro m ob' h1 h2 h3
      rcases Nat.lt_or_ge m p with q | q
      · obtain ⟨q1, q2⟩ := I.ghost m ob' q h2 h3
        refine ⟨q1, ?_⟩
        rw [hg, H.get_new, if_neg]
        · exact q2
        · intro hq
          rw [hq, I.wf _ (Nat.le_refl _)] at q2; cases q2
      · have : m = p := by omega
        subst this
        obtain ⟨o1, f1, e1, e2, e3, e4⟩ := h3
        obtain ⟨o2, f2, e1', e2', e3', e4'⟩ := hm
        rw [e1] at e1'; cases e1'
        rw [e4] at e4'; cases e4'
        refine ⟨?_, by rw [hg, H.get_new, if_pos rfl]⟩
        cases hρ : ρ (G m).nx with
        | none => rfl
        | some L =>
          obtain ⟨m', ob', h3, h4, h5, h6⟩ := I.only _ L hρ (Nat.le_refl _) (by rw [← I.nx]; exact hN)
          have := Inv.inj hcl T ⟨o1, f1, e1, e2, e3, e4⟩ h5 h6
          subst this
          exact absurd h4 h2

theorem Inv.on (hcl : CallsOk P cl) (T : Trace cl os 0 [] [] E G) (hG : (G 0).nx = h0.nx) : ∀ (d p : Nat) (X : H), Inv os E G ρ0 h0 w0 S p ρ X a.tmps w → p + d ≤ os.length → (∀ q o, p ≤ q → q < p + d → os[q]? = some o → o.op.cls ≠ .act) →
    ∃ X', Inv os E G ρ0 h0 w0 S (p + d) ρ X' a.tmps w
  | 0, p, X, I, _, _ => ⟨X, I⟩
  | d + 1, p, X, I, h, hq => by
    have hlt : p < os.length := by omega
    have ho := List.getElem?_eq_getElem hlt
    obtain ⟨X', I'⟩ := Inv.one hcl T I ho (hq p _ (Nat.le_refl _) (by omega) ho) (by rw [← hG]; exact trace_le hcl T (Nat.zero_le _) (Nat.le_of_lt hlt))
    have := Inv.on hcl T hG d (p + 1) X' I' (by omega) fun q o h1 h2 => hq q o (by omega) (by omega)
    rwa [show p + 1 + d = p + (d + 1) by omega] at this

/-! ### slots -/

theorem last_writer (T : Trace cl os 0 [] [] E G) (t : Nat) : ∀ i, i ≤ os.length → ∃ q, q ≤ i ∧ (q = 0 ∨ ∃ k o, q = k + 1 ∧ os[k]? = some o ∧ o.dst = some t) ∧ (∀ k o, q ≤ k → k < i → os[k]? = some o → o.dst ≠ some t) ∧ (E q).get t = (E i).get t
  | 0, _ => ⟨0, Nat.le_refl _, .inl rfl, fun k o _ h => by omega, rfl⟩
  | i + 1, h => by
    have hlt : i < os.length := h
    have ho := List.getElem?_eq_getElem hlt
    obtain ⟨v, hv⟩ : ∃ v, E (i + 1) = setD (E i) os[i].dst v := by
      rcases T.step i _ ho with ⟨_, hv, _⟩ | ⟨_, v, _, hv⟩
      · exact ⟨_, hv⟩
      · exact ⟨_, hv⟩
    by_cases hd : os[i].dst = some t
    · exact ⟨i + 1, Nat.le_refl _, .inr ⟨i, _, rfl, ho, hd⟩, fun k o h1 h2 => by omega, rfl⟩
    · obtain ⟨q, h1, h2, h3, h4⟩ := last_writer T t i (by omega)
      refine ⟨q, by omega, h2, ?_, ?_⟩
      · intro k o h5 h6 h7
        by_cases hk : k = i
        · subst hk; rw [ho] at h7; cases h7; exact hd
        · exact h3 k o h5 (by omega) h7
      · rw [h4, hv]
        cases hdst : os[i].dst with
        | none => rfl
        | some n =>
          simp only [setD, Tr.get_put]
          rw [if_neg]
          rintro rfl
          exact hd hdst

theorem clash_name {p o : Or} {t : Nat} (h : p.dst = some t) (ht : t ∈ o.names) : clash p o = true := by
  simp [clash, h, ht]

theorem clash_name' {p o : Or} {t : Nat} (h : o.dst = some t) (ht : t ∈ p.names) : clash p o = true := by
  simp [clash, h, ht]

theorem clash_act {p o : Or} (h : p.op.cls = .act) (h' : o.op.cls = .act) : clash p o = true := by
  simp [clash, h, h']

/-- What an operation sees, when it is its turn, is what it sees in the text's order. -/
theorem named (T : Trace cl os 0 [] [] E G) (hti : tidy os 0 [] = true) (I : Inv os E G ρ0 h0 w0 S p ρ X a.tmps w) {i : Nat} {o : Or} (ho : os[i]? = some o) (hbef : ∀ k, o.bef.testBit k = true → S k) (hnS : ¬ S i)
    (hcl : ∀ j q, os[j]? = some q → S j → ∀ k, q.bef.testBit k = true → S k) : EnvRel ρ (keep (E i) o.names) a.tmps := by
  intro t u hu
  rw [get_keep] at hu
  split at hu
  case isFalse => cases hu
  rename_i ht
  obtain ⟨q, h1, h2, h3, h4⟩ := last_writer T t i (Nat.le_of_lt (get_lt ho))
  refine I.env t q u ⟨?_, ?_⟩ (h4.trans hu)
  · rcases h2 with h2 | ⟨k, o', hk, ho', hd⟩
    · exact .inl h2
    · refine .inr ⟨k, o', hk, ?_, ho', hd⟩
      have := tidy_spec hti k i o' o (by omega) ho' ho (clash_name hd ht)
      rw [Nat.zero_add] at this
      exact hbef k this
  · intro k o' hSk hk hd
    rcases Nat.lt_trichotomy k i with r | r | r
    · rcases Nat.lt_or_ge k q with r' | r'
      · exact r'
      · exact absurd hd (h3 k o' r' r hk)
    · subst r; exact absurd hSk hnS
    · have := tidy_spec hti i k o o' r ho hk (clash_name' hd ht)
      rw [Nat.zero_add] at this
      exact absurd (hcl k o' hk hSk i this) hnS

/-- The slots behind an operation. -/
theorem env_next (hti : tidy os 0 [] = true) (I : Inv os E G ρ0 h0 w0 S p ρ X a.tmps w) {i : Nat} {o : Or} (ho : os[i]? = some o) (hnS : ¬ S i)
    (hcl : ∀ j q, os[j]? = some q → S j → ∀ k, q.bef.testBit k = true → S k) {ρ' : Ren} (hle : ρ.le ρ') (hd : ∀ n, o.dst = some n → n < a.tmps.size) {v : Option AV} (hE : E (i + 1) = setD (E i) o.dst v) {x : Value} (hv : ∀ u, v = some u → VRel ρ' u x) :
    ∀ t q u, Top os (fun k => S k ∨ k = i) t q → (E q).get t = some u → ∃ y, (a.put o.dst x).tmps[t]? = some y ∧ VRel ρ' u y := by
  intro t q u hT hu
  by_cases hdt : o.dst = some t
  · have hq : q = i + 1 := by
      have h1 : i < q := hT.2 i o (.inr rfl) ho hdt
      rcases hT.1 with h2 | ⟨k, o', hk, hS, ho', hd'⟩
      · omega
      · rcases hS with hS | rfl
        · have hik : i < k := by
            have : k ≠ i := by rintro rfl; exact hnS hS
            omega
          have := tidy_spec hti i k o o' hik ho ho' (clash_name' hd' (by simp [Or.names, hdt]))
          rw [Nat.zero_add] at this
          exact absurd (hcl k o' ho' hS i this) hnS
        · exact hk
    subst hq
    rw [hE, hdt] at hu
    simp only [setD, Tr.get_put, if_pos] at hu
    rw [hdt]
    simp only [Act.put, Array.getElem?_setIfInBounds, if_pos, if_pos (hd t hdt)]
    exact ⟨x, rfl, hv u hu⟩
  · have hT' : Top os S t q := by
      refine ⟨?_, fun k o' hS => hT.2 k o' (.inl hS)⟩
      rcases hT.1 with h2 | ⟨k, o', hk, hS, ho', hd'⟩
      · exact .inl h2
      · rcases hS with hS | rfl
        · exact .inr ⟨k, o', hk, hS, ho', hd'⟩
        · rw [ho] at ho'; cases ho'; exact absurd hd' hdt
    obtain ⟨y, hy, r⟩ := I.env t q u hT' hu
    refine ⟨y, ?_, r.mono hle⟩
    cases hdst : o.dst with
    | none => exact hy
    | some n =>
      simp only [Act.put, Array.getElem?_setIfInBounds]
      rw [if_neg]
      · exact hy
      · rintro rfl; exact hdt hdst

/-! ### reads -/

theorem rdId_congr {e e' : Env} {op : Op} (h : ∀ t ∈ op.tmps, e.get t = e'.get t) (hk : op.cls = .read) : rdId e op = rdId e' op := by
  cases op <;> first | (cases hk; done) | skip
  case ld => simp only [Op.tmps] at h; simp only [rdId, ev_congr h]
  case lookup => simp only [Op.tmps, List.forall_mem_append] at h; simp only [rdId, ev_congr h.1]
  case b2s => simp only [Op.tmps] at h; simp only [rdId, ev_congr h]

theorem readOp_congr {e e' : Env} {h : H} {op : Op} (hh : ∀ t ∈ op.tmps, e.get t = e'.get t) (hk : op.cls = .read) : readOp e h op = readOp e' h op := by
  have := step1_congr (cl := fun _ _ _ => none) (h := h) hh
  unfold step1 at this
  rw [hk] at this
  simp only at this
  cases h1 : readOp e h op <;> cases h2 : readOp e' h op <;> simp_all

theorem keep_agree {e : Env} {o : Or} : ∀ t ∈ o.op.tmps, (keep e o.names).get t = e.get t := by
  intro t ht
  rw [get_keep, if_pos (by simp [Or.names, ht])]

theorem reads (hcl : CallsOk P cl) (T : Trace cl os 0 [] [] E G) (hti : tidy os 0 [] = true) (I : Inv os E G ρ0 h0 w0 S p ρ X a.tmps w) {i : Nat} {o : Or} (ho : os[i]? = some o) (hk : o.op.cls = .read) (hw : wants (E i) o.guard = some true)
    {v : AV} (hv : readOp (E i) (G i) o.op = some v) (hbef : ∀ k, o.bef.testBit k = true → S k) (hnS : ¬ S i)
    (hclo : ∀ j q, os[j]? = some q → S j → ∀ k, q.bef.testBit k = true → S k) : readOp (E i) X o.op = some v := by
  have hlt := get_lt ho
  have r := named T hti I ho hbef hnS hclo
  have hrd := rdId_congr (keep_agree (e := E i) (o := o)) hk
  have hv' : readOp (keep (E i) o.names) (G i) o.op = some v := (readOp_congr keep_agree hk).trans hv
  obtain ⟨hid, hback, _⟩ := T.rd i o v ho hk hw hv
  rcases read_known r hv' (tidy_rd hti i o ho) with ⟨L, hL⟩ | hany
  case inr => exact (readOp_congr keep_agree hk).symm.trans (hany X)
  rw [hrd] at hL
  have back : ∀ d q, q + d = i → p ≤ q → (G q).nx ≤ rdId (E i) o.op ∨ readOp (E i) (G q) o.op = some v := by
    intro d
    induction d with
    | zero => intro q hq _; obtain rfl : q = i := hq; exact .inr hv
    | succ d ih =>
      intro q hq hpq
      have hql : q < os.length := by omega
      have hoq := List.getElem?_eq_getElem hql
      by_cases hact : os[q].op.cls = .act ∧ wants (E q) os[q].guard ≠ some false
      · have hwq : wants (E q) os[q].guard = some true := by
          rcases T.step q _ hoq with ⟨h, _⟩ | ⟨h, _⟩
          · exact absurd h hact.2
          · exact h
        refine hback q _ (by omega) hoq hact.1 hwq fun c p' h1 h2 h3 h4 => ?_
        cases hb : o.bef.testBit (0 + c) with
        | false => rfl
        | true =>
          rw [Nat.zero_add] at hb
          have := (I.acts c p' h3 h4).1 (hbef c hb)
          omega
      · have hq' : os[q].op.cls ≠ .act ∨ wants (E q) os[q].guard = some false := by
          by_cases h1 : os[q].op.cls = .act
          · by_cases h2 : wants (E q) os[q].guard = some false
            · exact .inr h2
            · exact absurd ⟨h1, h2⟩ hact
          · exact .inl h1
        have := ih (q + 1) (by omega) (by omega)
        rcases quiet T hoq hq' with hg | ⟨ob, _, hg⟩
        · rwa [hg] at this
        · rw [hg, H.nx_new] at this
          rcases this with h | h
          · exact .inl (by omega)
          · by_cases hid : rdId (E i) o.op = (G q).nx
            · exact .inl (by omega)
            · right
              rw [← h]
              exact read_congr (by rw [H.get_new, if_neg hid])
  by_cases hlo : rdId (E i) o.op < (G p).nx
  · have hG : readOp (E i) (G p) o.op = some v := by
      rcases Nat.lt_or_ge i p with hip | hip
      · -- ahead
        have fwd : ∀ d, i + 1 + d ≤ p → readOp (E i) (G (i + 1 + d)) o.op = some v := by
          intro d
          induction d with
          | zero =>
            intro _
            rcases quiet T ho (.inl (by rw [hk]; intro h; cases h)) with hg | ⟨ob, ⟨o', f, h1, h2, _⟩, _⟩
            · rw [Nat.add_zero, hg]; exact hv
            · rw [ho] at h1; cases h1; rw [hk] at h2; cases h2
          | succ d ih =>
            intro hd
            have := ih (by omega)
            have hql : i + 1 + d < os.length := by have := I.ple; omega
            have hoq := List.getElem?_eq_getElem hql
            rw [← Nat.add_assoc]
            by_cases hact : os[i + 1 + d].op.cls = .act ∧ wants (E (i + 1 + d)) os[i + 1 + d].guard ≠ some false
            · have hwq : wants (E (i + 1 + d)) os[i + 1 + d].guard = some true := by
                rcases T.step _ _ hoq with ⟨h, _⟩ | ⟨h, _⟩
                · exact absurd h hact.2
                · exact h
              rcases (T.act _ _ hoq hact.1 hwq).1 i o v (by omega) ho hk hw hv with hb | hb
              · rw [Nat.zero_add] at hb
                exact absurd (hclo _ _ hoq ((I.acts _ _ hoq hact.1).2 (by omega)) i hb) hnS
              · exact hb
            · have hq' : os[i + 1 + d].op.cls ≠ .act ∨ wants (E (i + 1 + d)) os[i + 1 + d].guard = some false := by
                by_cases h1 : os[i + 1 + d].op.cls = .act
                · by_cases h2 : wants (E (i + 1 + d)) os[i + 1 + d].guard = some false
                  · exact .inr h2
                  · exact absurd ⟨h1, h2⟩ hact
                · exact .inl h1
              rcases quiet T hoq hq' with hg | ⟨ob, _, hg⟩
              · rw [hg]; exact this
              · rw [hg, ← this]
                refine read_congr ?_
                have := trace_le hcl T (show i ≤ i + 1 + d by omega) (Nat.le_of_lt hql)
                rw [H.get_new, if_neg (by omega)]
        have := fwd (p - (i + 1)) (by omega)
        rwa [show i + 1 + (p - (i + 1)) = p by omega] at this
      · rcases back (i - p) p (by omega) (Nat.le_refl _) with h | h
        · omega
        · exact h
    rw [← hG]
    exact read_congr (I.here _ hlo)
  · have hN : rdId (E i) o.op < (G os.length).nx := Nat.lt_of_lt_of_le hid (trace_le hcl T (Nat.le_of_lt hlt) (Nat.le_refl _))
    obtain ⟨m, ob, h1, h2, h3, h4⟩ := I.only _ L hL (by omega) hN
    have hmi : m < i := by
      rcases Nat.lt_or_ge m i with q | q
      · exact q
      · have := trace_le hcl T q (Nat.le_of_lt (by obtain ⟨_, _, hq, _⟩ := h3; exact get_lt hq))
        omega
    have hm1 := h3.next T
    rcases back (i - (m + 1)) (m + 1) (by omega) (by omega) with h | h
    · rw [hm1, H.nx_new] at h; omega
    · rw [← h]
      refine read_congr ?_
      rw [hm1, H.get_new, if_pos h4, h4]
      exact I.pend m ob h1 h2 h3

end
end Go.AM
