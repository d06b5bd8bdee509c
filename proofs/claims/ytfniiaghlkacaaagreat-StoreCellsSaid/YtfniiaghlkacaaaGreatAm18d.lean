/- A region whose order is open: the turns. -/
import Derived.Test.YtfniiaghlkacaaaGreatAm18c
namespace Go.AM
open Go
set_option linter.unusedSimpArgs false

section
variable {P : Program} {cl : FuncId → List AV → H → Option (AV × H)} {os : List Or} {E : Nat → Env} {G : Nat → H} {ρ ρ0 : Ren} {h0 X : H} {w0 w : World} {a : Act} {S : Nat → Prop} {p : Nat}

/-- Behind a turn that left the heap as it was, at an operation that is no action. -/
theorem Inv.still (I : Inv os E G ρ0 h0 w0 S p ρ X a.tmps w) {i : Nat} {o : Or} (ho : os[i]? = some o) (hna : o.op.cls ≠ .act) (hnm : ∀ ob, ¬ Makes os E i ob) {tm' : Array Value} {w' : World} (R : Rel ρ X w') (St : Step ρ X w ρ X w')
    (henv : ∀ t q u, Top os (fun k => S k ∨ k = i) t q → (E q).get t = some u → ∃ y, tm'[t]? = some y ∧ VRel ρ u y) : Inv os E G ρ0 h0 w0 (fun k => S k ∨ k = i) p ρ X tm' w' where
  acts := fun q o' hq hc => by
    rw [← I.acts q o' hq hc]
    have : q ≠ i := by rintro rfl; rw [ho] at hq; cases hq; exact hna hc
    simp [this]
  rel := R
  step := I.step.trans I.rel St
  nx := I.nx
  wf := I.wf
  here := I.here
  pend := fun m ob h1 h2 h3 => by
    rcases h2 with h2 | rfl
    · exact I.pend m ob h1 h2 h3
    · exact absurd h3 (hnm ob)
  only := fun j L h1 h2 h3 => let ⟨m, ob, q1, q2, q3, q4⟩ := I.only j L h1 h2 h3; ⟨m, ob, q1, .inl q2, q3, q4⟩
  ghost := fun m ob h1 h2 h3 => I.ghost m ob h1 (fun h => h2 (.inl h)) h3
  env := henv
  ple := I.ple

theorem Makes.lt {m : Nat} {ob : AO} (h : Makes os E m ob) : m < os.length := by
  obtain ⟨_, _, h, _⟩ := h; exact get_lt h

theorem Makes.eq {m : Nat} {ob ob' : AO} (h : Makes os E m ob) (h' : Makes os E m ob') : ob = ob' := by
  obtain ⟨o, f, h1, h2, h3, h4⟩ := h
  obtain ⟨o', f', h1', h2', h3', h4'⟩ := h'
  rw [h1] at h1'; cases h1'
  rw [h4] at h4'; cases h4'; rfl

/-- Behind an action: where it is its turn, all of the text ahead of it stands. -/
theorem Inv.acted (hcl : CallsOk P cl) (T : Trace cl os 0 [] [] E G) {i : Nat} (I : Inv os E G ρ0 h0 w0 S i ρ X a.tmps w) {o : Or} (ho : os[i]? = some o) (hact : o.op.cls = .act) (hnS : ¬ S i) (hh0 : h0.nx ≤ (G i).nx) (hG : (G i).nx ≤ (G (i + 1)).nx) :
    Rel ρ (G i) w ∧ Fresh ρ (G i) (G (i + 1)) ∧ ∀ ρ' w' (tm' : Array Value), Rel ρ' (G (i + 1)) w' → Step ρ (G i) w ρ' (G (i + 1)) w' →
      (∀ t q u, Top os (fun k => S k ∨ k = i) t q → (E q).get t = some u → ∃ y, tm'[t]? = some y ∧ VRel ρ' u y) →
      ∃ X', Inv os E G ρ0 h0 w0 (fun k => S k ∨ k = i) (i + 1) ρ' X' tm' w' := by
  have hlt := get_lt ho
  have hnm : ∀ ob, ¬ Makes os E i ob := by
    rintro ob ⟨o', f, h1, h2, _⟩
    rw [ho] at h1; cases h1; rw [hact] at h2; cases h2
  have hN : (G (i + 1)).nx ≤ X.nx := by rw [I.nx]; exact trace_le hcl T hlt (Nat.le_refl _)
  have hlater : ∀ m ob, i ≤ m → Makes os E m ob → (G (i + 1)).nx ≤ (G m).nx ∧ (G m).nx < X.nx ∧ i + 1 ≤ m := by
    intro m ob h1 h2
    have hm : i + 1 ≤ m := by
      rcases Nat.lt_or_ge i m with q | q
      · exact q
      · have : m = i := by omega
        subst this; exact absurd h2 (hnm ob)
    have h3 := trace_le hcl T hm (Nat.le_of_lt h2.lt)
    have h4 := trace_le hcl T (show m + 1 ≤ os.length from h2.lt) (Nat.le_refl _)
    rw [h2.next T, H.nx_new, ← I.nx] at h4
    exact ⟨h3, by omega, hm⟩
  have F : Fresh ρ (G i) (G (i + 1)) := by
    intro j h1 h2
    cases hj : ρ j with
    | none => rfl
    | some L =>
      obtain ⟨m, ob, q1, q2, q3, q4⟩ := I.only j L hj h1 (by rw [← I.nx]; omega)
      have := (hlater m ob q1 q3).1
      omega
  obtain ⟨R1, gr⟩ := graft I.rel I.step I.wf I.here hh0 hG hN F
  refine ⟨R1, F, fun ρ' w' tm' R' S' henv => ?_⟩
  obtain ⟨R2, S2⟩ := gr ρ' w' R' S'
  have gm : ∀ j, (mix (G (i + 1)) X).get j = if j < X.nx then (if j < (G (i + 1)).nx then (G (i + 1)).get j else X.get j) else none := fun j => H.get_of ..
  refine ⟨mix (G (i + 1)) X, ⟨?_, R2, S2, I.nx, R'.wf, ?_, ?_, ?_, ?_, henv, hlt⟩⟩
  · intro q o' hq hc
    have := I.acts q o' hq hc
    by_cases hqi : q = i
    · simp [hqi]
    · simp only [hqi, or_false, this]; omega
  · intro j hj
    rw [gm, if_pos (by omega), if_pos hj]
  · intro m ob h1 h2 h3
    obtain ⟨q1, q2, _⟩ := hlater m ob (by omega) h3
    rw [gm, if_pos q2, if_neg (by omega)]
    rcases h2 with h2 | rfl
    · exact I.pend m ob (by omega) h2 h3
    · omega
  · intro j L hL h1 h2
    rw [S'.far j h1] at hL
    obtain ⟨m, ob, q1, q2, q3, q4⟩ := I.only j L hL (by omega) h2
    exact ⟨m, ob, (hlater m ob q1 q3).2.2, .inl q2, q3, q4⟩
  · intro m ob h1 h2 h3
    have hmi : m < i := by
      rcases Nat.lt_or_ge m i with q | q
      · exact q
      · have := (hlater m ob q h3).2.2; omega
    obtain ⟨q1, q2⟩ := I.ghost m ob hmi (fun h => h2 (.inl h)) h3
    have hlt2 : (G m).nx < (G i).nx := by
      rcases Nat.lt_or_ge (G m).nx (G i).nx with q | q
      · exact q
      · rw [I.wf _ q] at q2; cases q2
    exact ⟨by rw [S'.old _ hlt2]; exact q1, by rw [S'.ghost _ hlt2 q1]; exact q2⟩

/-- Behind something new. -/
theorem Inv.made (hcl : CallsOk P cl) (T : Trace cl os 0 [] [] E G) (I : Inv os E G ρ0 h0 w0 S p ρ X a.tmps w) {i : Nat} {ob : AO} (hm : Makes os E i ob) (hnS : ¬ S i) (hh0 : h0.nx ≤ (G i).nx) :
    Rel ρ (H.of (G i).nx X.get) w ∧ Fresh ρ (H.of (G i).nx X.get) ((H.of (G i).nx X.get).new ob) ∧ ∀ ρ' w' (tm' : Array Value), Rel ρ' ((H.of (G i).nx X.get).new ob) w' → Step ρ (H.of (G i).nx X.get) w ρ' ((H.of (G i).nx X.get).new ob) w' →
      (∀ t q u, Top os (fun k => S k ∨ k = i) t q → (E q).get t = some u → ∃ y, tm'[t]? = some y ∧ VRel ρ' u y) →
      ∃ X', Inv os E G ρ0 h0 w0 (fun k => S k ∨ k = i) p ρ' X' tm' w' := by
  have hlt := hm.lt
  have hN : (G i).nx < X.nx := by
    have h4 := trace_le hcl T (show i + 1 ≤ os.length from hlt) (Nat.le_refl _)
    rw [hm.next T, H.nx_new, ← I.nx] at h4; omega
  have hip : ∀ j, (G i).nx < (G j).nx → i < j ∨ os.length < j := by
    intro j hj
    rcases Nat.lt_or_ge i j with q | q
    · exact .inl q
    · have := trace_le hcl T q (Nat.le_of_lt hlt); omega
  have hnone : ρ (G i).nx = none := by
    rcases Nat.lt_or_ge i p with q | q
    · exact (I.ghost i ob q hnS hm).1
    · cases hj : ρ (G i).nx with
      | none => rfl
      | some L =>
        obtain ⟨m, ob', q1, q2, q3, q4⟩ := I.only _ L hj (trace_le hcl T q (Nat.le_of_lt hlt)) (by rw [← I.nx]; exact hN)
        have := Inv.inj hcl T hm q3 q4
        subst this; exact absurd q2 hnS
  have F : Fresh ρ (H.of (G i).nx X.get) ((H.of (G i).nx X.get).new ob) := by
    intro j h1 h2
    simp at h1 h2
    have : j = (G i).nx := by omega
    subst this; exact hnone
  have hget : ∀ j, (H.of (G i).nx X.get).get j = if j < (G i).nx then X.get j else none := fun j => H.get_of ..
  obtain ⟨R1, gr⟩ := graft I.rel I.step (Y := H.of (G i).nx X.get) (Y' := (H.of (G i).nx X.get).new ob) (fun j hj => by rw [hget, if_neg]; simp at hj; omega) (fun j hj => by rw [hget, if_pos (by simpa using hj)]) (by simpa using hh0) (by simp) (by simp; omega) F
  refine ⟨R1, F, fun ρ' w' tm' R' S' henv => ?_⟩
  obtain ⟨R2, S2⟩ := gr ρ' w' R' S'
  have gm : ∀ j, (mix ((H.of (G i).nx X.get).new ob) X).get j = if j = (G i).nx then some ob else X.get j := by
    intro j
    have h1 : (mix ((H.of (G i).nx X.get).new ob) X).get j = if j < X.nx then (if j < (G i).nx + 1 then ((H.of (G i).nx X.get).new ob).get j else X.get j) else none := H.get_of ..
    have h2 : ((H.of (G i).nx X.get).new ob).get j = if j = (G i).nx then some ob else (H.of (G i).nx X.get).get j := H.get_new ..
    rw [h1, h2, hget]
    by_cases q : j = (G i).nx
    · rw [if_pos (by omega), if_pos (by omega), if_pos q, if_pos q]
    · rw [if_neg q, if_neg q]
      by_cases q2 : j < (G i).nx
      · rw [if_pos (by omega), if_pos (by omega), if_pos q2]
      · by_cases q3 : j < X.nx
        · rw [if_pos q3, if_neg (by omega)]
        · rw [if_neg q3, I.rel.wf j (by omega)]
  have hρ : ∀ j, j ≠ (G i).nx → ρ' j = ρ j := by
    intro j hj
    rcases Nat.lt_or_ge j (G i).nx with q | q
    · exact S'.old j (by simpa using q)
    · exact S'.far j (by simp; omega)
  refine ⟨_, ⟨?_, R2, S2, I.nx, I.wf, ?_, ?_, ?_, ?_, henv, I.ple⟩⟩
  · intro q o' hq hc
    rw [← I.acts q o' hq hc]
    have : q ≠ i := by
      rintro rfl
      obtain ⟨o, f, h1, h2, _⟩ := hm
      rw [h1] at hq; cases hq; rw [h2] at hc; cases hc
    simp [this]
  · intro j hj
    rw [gm]
    split
    · rename_i q; subst q
      rcases hip p hj with q | q
      · exact (I.ghost i ob q hnS hm).2.symm
      · have := I.ple; omega
    · exact I.here j hj
  · intro m ob' h1 h2 h3
    rw [gm]
    rcases h2 with h2 | rfl
    · rw [if_neg]
      · exact I.pend m ob' h1 h2 h3
      · intro hq
        have := Inv.inj hcl T h3 hm hq
        subst this; exact hnS h2
    · rw [if_pos rfl, hm.eq h3]
  · intro j L hL h1 h2
    by_cases hj : j = (G i).nx
    · refine ⟨i, ob, ?_, .inr rfl, hm, hj⟩
      rcases Nat.lt_or_ge i p with q | q
      · have := trace_le hcl T (show i + 1 ≤ p from q) I.ple
        rw [hm.next T, H.nx_new] at this; omega
      · exact q
    · rw [hρ j hj] at hL
      obtain ⟨m, ob', q1, q2, q3, q4⟩ := I.only j L hL h1 h2
      exact ⟨m, ob', q1, .inl q2, q3, q4⟩
  · intro m ob' h1 h2 h3
    have hmi : m ≠ i := fun h => h2 (.inr h)
    have hne : (G m).nx ≠ (G i).nx := fun h => hmi (Inv.inj hcl T h3 hm h)
    rw [hρ _ hne]
    exact I.ghost m ob' h1 (fun h => h2 (.inl h)) h3

/-- One turn. -/
theorem turn (hcl : CallsOk P cl) (T : Trace cl os 0 [] [] E G) (hti : tidy os 0 [] = true) (hG0 : (G 0).nx = h0.nx) {nt : Nat} {ops : Array Oper} {bef : Array Nat} (I : Inv os E G ρ0 h0 w0 S p ρ X a.tmps w) {i : Nat} {o : Or} {oper : Oper} (ho : os[i]? = some o) (hop : ops[i]? = some oper) (hq : cOr P nt ops bef i oper = some o)
    (hbef : ∀ k, o.bef.testBit k = true → S k) (hnS : ¬ S i) (hclo : ∀ j q, os[j]? = some q → S j → ∀ k, q.bef.testBit k = true → S k) (hnt : nt ≤ a.tmps.size) {Q : Exit → Act → World → Prop} {K : Act → World → Prop}
    (next : ∀ p' ρ' X' a' w', Inv os E G ρ0 h0 w0 (fun k => S k ∨ k = i) p' ρ' X' a'.tmps w' → a'.tmps.size = a.tmps.size → a'.defers = a.defers → K a' w') : wpOp P ops Q i K a w := by
  have r := named T hti I ho hbef hnS hclo
  obtain ⟨hd, hdn, hopc, _, _⟩ := cOr_inv hq
  have hlt := get_lt ho
  have hdst : ∀ n, o.dst = some n → n < a.tmps.size := fun n hn => Nat.lt_of_lt_of_le (hdn n (hd ▸ hn)) hnt
  have hwk : wants (keep (E i) o.names) o.guard = wants (E i) o.guard := wants_congr fun t ht => by rw [get_keep, if_pos (by simp [Or.names, ht])]
  have hh0 : h0.nx ≤ (G i).nx := by rw [← hG0]; exact trace_le hcl T (Nat.zero_le _) (Nat.le_of_lt hlt)
  have hG1 := trace_le hcl T (Nat.le_succ i) hlt
  -- an action has all of the text ahead of it behind it
  have toAct : o.op.cls = .act → ∃ X1, Inv os E G ρ0 h0 w0 S i ρ X1 a.tmps w := by
    intro hc
    have hpi : p ≤ i := by
      rcases Nat.lt_or_ge i p with q | q
      · exact absurd ((I.acts i o ho hc).2 q) hnS
      · exact q
    have := Inv.on hcl T hG0 (i - p) p X I (by omega) fun q o' h1 h2 h3 h4 => by
      have hb := tidy_spec hti q i o' o (by omega) h3 ho (clash_act h4 hc)
      rw [Nat.zero_add] at hb
      have := (I.acts q o' h3 h4).1 (hbef q hb)
      omega
    rwa [show p + (i - p) = i by omega] at this
  unfold wpOp
  simp only [hop]
  rcases T.step i o ho with ⟨hw, hE, hG⟩ | ⟨hw, v, hs, hE⟩
  · rw [wants_sim r hq (hwk.trans hw), if_neg (by simp)]
    have henv := env_next hti I ho hnS hclo (fun _ _ h => h) hdst hE (x := undef) (fun u hu => by cases hu; exact ⟨#[], rfl, .nil⟩)
    rw [hd] at henv
    have hnm : ∀ ob, ¬ Makes os E i ob := by
      rintro ob ⟨o', f, h1, h2, h3, _⟩
      rw [ho] at h1; cases h1; rw [hw] at h3; cases h3
    by_cases hc : o.op.cls = .act
    · obtain ⟨X1, I1⟩ := toAct hc
      obtain ⟨R1, _, hnext⟩ := I1.acted hcl T ho hc hnS hh0 hG1
      obtain ⟨X', I'⟩ := hnext ρ w (a.put oper.dst undef).tmps (by rw [hG]; exact R1) (by rw [hG]; exact Step.refl ..) henv
      exact next _ _ _ _ _ I' (put_size ..) (put_defers ..)
    · exact next _ _ _ _ _ (I.still ho hc hnm I.rel (Step.refl ..) henv) (put_size ..) (put_defers ..)
  · rw [wants_sim r hq (hwk.trans hw), if_pos rfl]
    refine .inl ?_
    cases hcop : cOp P oper.op with
    | none => rw [hopc, hcop] at hs; rw [Option.getD_none, stuck_step] at hs; cases hs
    | some op =>
      have hoo : o.op = op := by rw [hopc, hcop]; rfl
      have hss : ∀ Y, step1 cl (keep (E i) o.names) Y op = step1 cl (E i) Y op := fun Y => step1_congr (by rw [← hoo]; exact keep_agree)
      rw [hoo] at hs
      -- what moves nothing
      have inert : o.op.cls ≠ .act → o.op.cls ≠ .make → step1 cl (E i) X op = some (v, X) → oper.wp P a w K Q := by
        intro hc1 hc2 hsX
        refine oper_sim hcl r I.rel hcop ((hss X).trans hsX) (fun j h1 h2 => by omega) ?_
        intro x w' ρ' R' S' hv
        have hρ : ρ' = ρ := by
          funext j
          rcases Nat.lt_or_ge j X.nx with q | q
          · exact S'.old j q
          · exact S'.far j q
        subst hρ
        have hnm : ∀ ob, ¬ Makes os E i ob := by
          rintro ob ⟨o', f, h1, h2, h3, _⟩
          rw [ho] at h1; cases h1; exact hc2 h2
        have henv := env_next hti I ho hnS hclo (fun _ _ h => h) hdst hE hv
        rw [hd] at henv
        exact next _ _ _ _ _ (I.still ho hc1 hnm R' S' henv) (put_size ..) (put_defers ..)
      cases hk : op.cls with
      | pure =>
        refine inert (by rw [hoo, hk]; intro h; cases h) (by rw [hoo, hk]; intro h; cases h) ?_
        simp only [step1, hk] at hs ⊢
        split at hs
        · simp only [Option.some.injEq, Prod.mk.injEq] at hs; rw [← hs.1]
        · cases hs
      | read =>
        refine inert (by rw [hoo, hk]; intro h; cases h) (by rw [hoo, hk]; intro h; cases h) ?_
        simp only [step1, hk] at hs ⊢
        split at hs
        · rename_i u hu
          simp only [Option.some.injEq, Prod.mk.injEq] at hs
          rw [← hoo] at hu hk
          have := reads hcl T hti I ho hk hw hu hbef hnS hclo
          rw [← hoo, this, ← hs.1]
        · cases hs
      | make =>
        have hs' := hs
        simp only [step1, hk] at hs'
        split at hs'
        case h_2 => cases hs'
        rename_i ob f hm
        simp only [Option.some.injEq, Prod.mk.injEq] at hs'
        have hM : Makes os E i ob := ⟨o, f, ho, by rw [hoo]; exact hk, hw, by rw [hoo]; exact hm⟩
        obtain ⟨R1, F1, hnext⟩ := I.made hcl T hM hnS hh0
        refine oper_sim hcl r R1 hcop (v := v) (h' := (H.of (G i).nx X.get).new ob) ?_ F1 ?_
        · rw [hss]
          simp only [step1, hk, hm, H.nx_of, ← hs'.1]
        · intro x w' ρ' R' S' hv
          have henv := env_next hti I ho hnS hclo (S'.le F1) hdst hE hv
          rw [hd] at henv
          obtain ⟨X', I'⟩ := hnext ρ' w' _ R' S' henv
          exact next _ _ _ _ _ I' (put_size ..) (put_defers ..)
      | act =>
        have hc : o.op.cls = .act := by rw [hoo]; exact hk
        obtain ⟨X1, I1⟩ := toAct hc
        obtain ⟨R1, F1, hnext⟩ := I1.acted hcl T ho hc hnS hh0 hG1
        refine oper_sim hcl r R1 hcop ((hss _).trans hs) F1 ?_
        intro x w' ρ' R' S' hv
        have henv := env_next hti I ho hnS hclo (S'.le F1) hdst hE hv
        rw [hd] at henv
        obtain ⟨X', I'⟩ := hnext ρ' w' _ R' S' henv
        exact next _ _ _ _ _ I' (put_size ..) (put_defers ..)

/-- Where all is done. -/
theorem Inv.done (hcl : CallsOk P cl) (T : Trace cl os 0 [] [] E G) (hG0 : (G 0).nx = h0.nx) (I : Inv os E G ρ0 h0 w0 S p ρ X a.tmps w) (hS : ∀ i, i < os.length → S i) : Rel ρ (G os.length) w ∧ Step ρ0 h0 w0 ρ (G os.length) w ∧ EnvRel ρ (E os.length) a.tmps := by
  obtain ⟨X', I'⟩ := Inv.on hcl T hG0 (os.length - p) p X I (by have := I.ple; omega) fun q o h1 h2 h3 h4 => by
    have := (I.acts q o h3 h4).1 (hS q (get_lt h3)); omega
  rw [show p + (os.length - p) = os.length by have := I.ple; omega] at I'
  have hget : ∀ j, (G os.length).get j = X'.get j := by
    intro j
    rcases Nat.lt_or_ge j (G os.length).nx with q | q
    · exact (I'.here j q).symm
    · rw [I'.wf j q, I'.rel.wf j (by rw [I'.nx]; exact q)]
  refine ⟨I'.rel.shift (fun j _ _ => hget j) I'.wf, I'.step.shift (fun j _ => hget j) I'.nx.symm, ?_⟩
  intro t u hu
  obtain ⟨q, h1, h2, h3, h4⟩ := last_writer T t os.length (Nat.le_refl _)
  refine I'.env t q u ⟨?_, ?_⟩ (h4.trans hu)
  · rcases h2 with h2 | ⟨k, o, hk, ho, hd⟩
    · exact .inl h2
    · exact .inr ⟨k, o, hk, hS k (get_lt ho), ho, hd⟩
  · intro k o _ hk hd
    rcases Nat.lt_or_ge k q with r | r
    · exact r
    · exact absurd hd (h3 k o r (get_lt hk) hk)

end

section
variable {P : Program} {ρ : Ren} {e : Env} {a : Act} {h : H} {w : World}

theorem cOrs_get {nt : Nat} {ops : Array Oper} {bef : Array Nat} : ∀ {l : List Oper} {i : Nat} {os : List Or}, cOrs P nt ops bef i l = some os → l.length = os.length ∧ ∀ j oper, l[j]? = some oper → ∃ o, os[j]? = some o ∧ cOr P nt ops bef (i + j) oper = some o
  | [], i, os, h => by cases h; exact ⟨rfl, fun j o hj => by simp at hj⟩
  | x :: l, i, os, h => by
    simp only [cOrs] at h
    split at h
    case h_2 => cases h
    rename_i q qs hq hqs
    cases h
    obtain ⟨h1, h2⟩ := cOrs_get hqs
    refine ⟨by simp [h1], ?_⟩
    intro j o hj
    cases j with
    | zero => simp at hj; subst hj; exact ⟨q, rfl, hq⟩
    | succ j =>
      obtain ⟨o', h3, h4⟩ := h2 j o (by simpa using hj)
      exact ⟨o', by simpa using h3, by rw [← h4]; congr 1; omega⟩

theorem orders {cl : FuncId → List AV → H → Option (AV × H)} (hcl : CallsOk P cl) {nt : Nat} {ops : Array Oper} {os : List Or} (hc : cOrs P nt ops (Region.before ops) 0 ops.toList = some os) {md : Region.Mode} (hf : full md ops = true) (hti : tidy os 0 [] = true)
    {E : Nat → Env} {G : Nat → H} (T : Trace cl os 0 [] [] E G) {ρ0 : Ren} {h0 : H} {w0 : World} (hG0 : (G 0).nx = h0.nx) {Q : Exit → Act → World → Prop} {sz : Nat} {df : _} (hnt : nt ≤ sz)
    (K : ∀ a' w' ρ', Rel ρ' (G os.length) w' → Step ρ0 h0 w0 ρ' (G os.length) w' → EnvRel ρ' (E os.length) a'.tmps → a'.tmps.size = sz → a'.defers = df → Q .normal a' w') :
    ∀ (fuel : Nat) (listed : Array Bool) (p : Nat) (ρ : Ren) (X : H) (a : Act) (w : World), listed.size = ops.size → ((List.range ops.size).filter fun k => !listed.getD k true).length ≤ fuel →
      (∀ j o, ops[j]? = some o → listed.getD j false = true → ∀ e ∈ o.after.toList, Region.binds .any e = true → listed.getD e.on false = true) →
      Inv os E G ρ0 h0 w0 (fun k => listed.getD k false = true) p ρ X a.tmps w → a.tmps.size = sz → a.defers = df → wpAny P md ops Q fuel listed a w := by
  have hlen : os.length = ops.size := by have := (cOrs_get hc).1; simpa using this.symm
  have hany : ∀ e : Edge, Region.binds .any e = true → Region.binds md e = true := by
    intro e he
    unfold Region.binds at he ⊢
    cases hg : e.ground <;> simp_all
  have last : ∀ (listed : Array Bool) (p : Nat) (ρ : Ren) (X : H) (a : Act) (w : World), listed.size = ops.size → Inv os E G ρ0 h0 w0 (fun k => listed.getD k false = true) p ρ X a.tmps w → a.tmps.size = sz → a.defers = df → Region.ready md ops listed = [] → Q .normal a w := by
    intro listed p ρ X a w hsz I hs hd hr
    have hall := full_spec hf (S := fun k => listed.getD k false = true) fun j o hj he => by
      have hjn : j < ops.size := by
        rcases Nat.lt_or_ge j ops.size with q | q
        · exact q
        · rw [Array.getElem?_eq_none q] at hj; cases hj
      have hnot : j ∉ Region.ready md ops listed := by rw [hr]; simp
      unfold Region.ready at hnot
      simp only [List.mem_filter, List.mem_range, hjn, true_and, hj, Option.map_some, Option.getD_some, Bool.and_eq_true, Bool.not_eq_true', not_and] at hnot
      cases hl : listed.getD j true with
      | true =>
        rw [Array.getD_eq_getD_getElem?] at hl ⊢
        rw [Array.getElem?_eq_getElem (by omega)] at hl ⊢
        exact hl
      | false =>
        exfalso
        refine hnot hl ?_
        rw [← Array.all_toList, List.all_eq_true]
        intro e he'
        cases hb : Region.binds md e with
        | false => rfl
        | true => simpa using he e he' hb
    obtain ⟨q1, q2, q3⟩ := I.done hcl T hG0 fun i hi => hall i (by omega)
    exact K a w ρ q1 q2 q3 hs hd
  intro fuel
  induction fuel with
  | zero =>
    intro listed p ρ X a w hsz hcnt hcl' I hs hd
    have hr : Region.ready md ops listed = [] := by
      rw [List.eq_nil_iff_forall_not_mem]
      intro j hj
      unfold Region.ready at hj
      rw [List.mem_filter] at hj
      have : j ∈ (List.range ops.size).filter fun k => !listed.getD k true := by
        rw [List.mem_filter]
        refine ⟨hj.1, ?_⟩
        have := hj.2
        simp only [Bool.and_eq_true] at this
        exact this.1
      rw [List.eq_nil_of_length_eq_zero (Nat.le_zero.1 hcnt)] at this
      cases this
    exact ⟨hr, last listed p ρ X a w hsz I hs hd hr⟩
  | succ fuel ih =>
    intro listed p ρ X a w hsz hcnt hcl' I hs hd
    refine ⟨last listed p ρ X a w hsz I hs hd, ?_⟩
    intro i hi
    unfold Region.ready at hi
    rw [List.mem_filter] at hi
    obtain ⟨hin, hi⟩ := hi
    rw [List.mem_range] at hin
    simp only [Bool.and_eq_true, Bool.not_eq_true'] at hi
    obtain ⟨hi1, hi2⟩ := hi
    have hop := Array.getElem?_eq_getElem hin
    rw [hop] at hi2
    simp only [Option.map_some, Option.getD_some, ← Array.all_toList, List.all_eq_true] at hi2
    obtain ⟨o, ho, hq⟩ := (cOrs_get hc).2 i ops[i] (by simp [hin])
    rw [Nat.zero_add] at hq
    have hnS : ¬ listed.getD i false = true := by
      intro h
      rw [Array.getD_eq_getD_getElem?, Array.getElem?_eq_getElem (by omega)] at h hi1
      simp only [Option.getD_some] at h hi1
      rw [h] at hi1; cases hi1
    have hS' : ∀ k, (listed.setIfInBounds i true).getD k false = true ↔ (listed.getD k false = true ∨ k = i) := by
      intro k
      rw [Array.getD_eq_getD_getElem?, Array.getElem?_setIfInBounds]
      by_cases h : i = k
      · subst h; simp [hsz, hin]
      · rw [if_neg h, ← Array.getD_eq_getD_getElem?]; simp [Ne.symm h]
    have hei : ∀ e ∈ ops[i].after.toList, Region.binds .any e = true → listed.getD e.on false = true := by
      intro e he hb
      have := hi2 e he
      simpa [hany e hb] using this
    have hclosed : ∀ j o', ops[j]? = some o' → (listed.getD j false = true ∨ j = i) → ∀ e ∈ o'.after.toList, Region.binds .any e = true → listed.getD e.on false = true := by
      intro j o' hj hor
      rcases hor with h | rfl
      · exact hcl' j o' hj h
      · rw [hop] at hj; cases hj; exact hei
    have hb := before_closed (ops := ops) (S := fun k => listed.getD k false = true) (i := i) hclosed
    have hbits : ∀ j q, os[j]? = some q → (listed.getD j false = true ∨ j = i) → ∀ k, q.bef.testBit k = true → listed.getD k false = true := by
      intro j q hj hor k hk
      have hjn : j < ops.size := by rw [← hlen]; exact get_lt hj
      obtain ⟨o', ho', hq'⟩ := (cOrs_get hc).2 j ops[j] (by simp [hjn])
      rw [hj] at ho'; cases ho'
      obtain ⟨_, _, _, hbef, _⟩ := cOr_inv hq'
      rw [hbef, Nat.zero_add] at hk
      exact hb (j + 1) j (Nat.lt_succ_self _) hor k hk
    refine turn hcl T hti hG0 I ho hop hq (hbits i o ho (.inr rfl)) hnS (fun j q hj hSj => hbits j q hj (.inl hSj)) (by omega) ?_
    intro p' ρ' X' a' w' I' hs' hd'
    refine ih _ p' ρ' X' a' w' (by simp [hsz]) ?_ ?_ ?_ (hs'.trans hs) (hd'.trans hd)
    · have hlt : ((List.range ops.size).filter fun k => !(listed.setIfInBounds i true).getD k true).length < ((List.range ops.size).filter fun k => !listed.getD k true).length := by
        have hsub : ((List.range ops.size).filter fun k => !(listed.setIfInBounds i true).getD k true) = ((List.range ops.size).filter fun k => !listed.getD k true).filter fun k => decide (k ≠ i) := by
          rw [List.filter_filter]
          refine List.filter_congr fun k hk => ?_
          rw [List.mem_range] at hk
          rw [Array.getD_eq_getD_getElem?, Array.getElem?_setIfInBounds]
          by_cases h : i = k
          · subst h; simp [hsz, hin]
          · rw [if_neg h, ← Array.getD_eq_getD_getElem?]; simp [Ne.symm h]
        rw [hsub]
        refine List.length_filter_lt_length_iff_exists.2 ⟨i, ?_, by simp⟩
        rw [List.mem_filter]
        exact ⟨List.mem_range.2 hin, by simp [hi1]⟩
      omega
    · intro j o' hj hl e he hbi
      exact (hS' _).2 (.inl (hclosed j o' hj ((hS' j).1 hl) e he hbi))
    · have : (fun k => (listed.setIfInBounds i true).getD k false = true) = (fun k => listed.getD k false = true ∨ k = i) := by
        funext k; exact propext (hS' k)
      rw [this]
      exact I'

theorem runOpsD_nx {cl : FuncId → List AV → H → Option (AV × H)} (hcl : CallsOk P cl) : ∀ {os : List Or} {i : Nat} {rds : List Rd} {past : List (Nat × H)} {e : Env} {h : H} {e' : Env} {h' : H}, runOpsD cl os i rds past e h = some (e', h') → h.nx ≤ h'.nx
  | [], _, _, _, e, h, e', h', hr => by cases hr; exact Nat.le_refl _
  | o :: os, i, rds, past, e, h, e', h', hr => by
    simp only [runOpsD] at hr
    split at hr
    · split at hr
      · rename_i hs
        have h1 := step_nx hcl hs
        split at hr
        · split at hr
          · exact Nat.le_trans h1 (runOpsD_nx hcl hr)
          · cases hr
        · split at hr
          · exact Nat.le_trans h1 (runOpsD_nx hcl hr)
          · cases hr
        · exact Nat.le_trans h1 (runOpsD_nx hcl hr)
      · cases hr
    · exact runOpsD_nx hcl hr
    · cases hr

theorem regionD_sim {cl : FuncId → List AV → H → Option (AV × H)} (hcl : CallsOk P cl) {nt id : Nat} {ops : Array Oper} {os : List Or} (hc : cOrs P nt ops (Region.before ops) 0 ops.toList = some os) (ht : fulls ops = true) (hti : tidy os 0 [] = true)
    {e' : Env} {h' : H} (hr : runOpsD cl os 0 [] [] e h = some (e', h'))
    (r : EnvRel ρ e a.tmps) (R : Rel ρ h w) (F : Fresh ρ h h') (hnt : nt ≤ a.tmps.size) {Q : Exit → Act → World → Prop} (K : Behind ρ h w a e' h' (Q .normal)) : (Code.region id ops true).wp P Q a w := by
  obtain ⟨E, G, hE0, hG0, hE, hG, T⟩ := trace_of os 0 [] [] e h e' h' .nil (fun _ hp => by simp at hp) hr
  have hn0 : h.nx ≤ (G os.length).nx := by rw [← hG0]; exact trace_le hcl T (Nat.zero_le _) (Nat.le_refl _)
  have hX : ∀ j, (H.of (G os.length).nx h.get).get j = h.get j := by
    intro j
    rw [H.get_of]
    split
    · rfl
    · exact (R.wf j (by omega)).symm
  have main : ∀ md t, full md ops = true → wpOps P ops Q (Region.linearise md ops t) a { w with drawn := w.drawn + 1 } := by
    intro md t hf
    refine wpAny_sound ops.size t _ a _ ?_
    refine orders hcl hc hf hti T (ρ0 := ρ) (h0 := h) (w0 := w) (by rw [hG0]) hnt (df := a.defers) ?_ ops.size _ 0 ρ (H.of (G os.length).nx h.get) a _ (by simp) ?_ ?_ ?_ rfl rfl
    · intro a' w' ρ' q1 q2 q3 q4 q5
      rw [hG] at q1 q2
      rw [hE] at q3
      exact K a' w' ρ' q1 q2 q3 q4 q5
    · exact Nat.le_trans (List.length_filter_le ..) (by simp)
    · intro j o hj hl
      rw [Array.getD_eq_getD_getElem?, Array.getElem?_replicate] at hl
      split at hl <;> cases hl
    · have hno : ∀ k, ¬ (Array.replicate ops.size false).getD k false = true := by
        intro k hk
        rw [Array.getD_eq_getD_getElem?, Array.getElem?_replicate] at hk
        split at hk <;> cases hk
      refine ⟨?_, ?_, ?_, rfl, ?_, ?_, ?_, ?_, ?_, ?_, Nat.zero_le _⟩
      · intro q o _ _
        exact ⟨fun h => absurd h (hno q), fun h => by omega⟩
      · have R1 : Rel ρ h { w with drawn := w.drawn + 1 } := ⟨fun i o L hi hL => (R.objs i o L hi hL).same rfl, R.inj, R.lt, R.wf⟩
        exact R1.shift (fun j _ _ => hX j) fun j hj => by rw [H.get_of, if_neg]; simp at hj; omega
      · refine ⟨Nat.le_refl _, rfl, rfl, rfl, fun _ _ _ => rfl, fun _ _ => rfl, fun _ _ => rfl, ?_, fun i _ o => o.congr (hX i), fun i _ _ => hX i, fun i _ hn => (hX i).trans hn, hn0⟩
        intro i L h1 h2 hL
        rw [F i h1 (by rw [← hG]; exact h2)] at hL; cases hL
      · rw [hG0]; exact R.wf
      · intro i _
        rw [hG0]; exact hX i
      · intro m ob _ h2; exact absurd h2 (hno m)
      · intro i L hL h1 h2
        rw [hG0] at h1
        rw [F i h1 (by rw [← hG]; exact h2)] at hL; cases hL
      · intro m ob h1; omega
      · intro t q u hT hu
        have : q = 0 := by
          rcases hT.1 with h | ⟨k, _, _, hk, _⟩
          · exact h
          · exact absurd hk (hno k)
        subst this
        rw [hE0] at hu
        exact r t u hu
  refine wp_region_draw fun t => ?_
  unfold fulls at ht
  simp only [Bool.and_eq_true, Bool.or_eq_true, Bool.not_eq_true'] at ht
  unfold Region.schedule
  split
  · exact main _ _ ht.1
  · rename_i hno
    simp only [Bool.or_eq_true, Bool.not_eq_true', not_or] at hno
    rcases ht.2 with h | h
    · exact absurd h hno.2
    · split
      · exact main _ _ h.1
      · exact main _ _ h.2

end
end Go.AM
