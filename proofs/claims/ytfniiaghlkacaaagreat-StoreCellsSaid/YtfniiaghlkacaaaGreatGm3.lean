/- The shallow reading is sound: regions, control, functions. -/
import Derived.Test.YtfniiaghlkacaaaGreatGm2
namespace Go.AM.G
open Go Go.AM
set_option linter.unusedSimpArgs false

variable {cl cl' : Cl}

theorem gv_ok {e e' : Env} (s : Sub e e') {g : Option (Nat × Bool)} {g' : Option (AV × Bool)} (h : gv e g = some g') : (g = none ∧ g' = none) ∨ ∃ n b c, g = some (n, b) ∧ g' = some (c, b) ∧ e'.get n = some c := by
  unfold gv at h
  split at h
  · cases h; exact .inl ⟨rfl, rfl⟩
  · rename_i n b
    simp only [ob_some, F.get_eq, Option.some.injEq] at h
    obtain ⟨c, h1, rfl⟩ := h
    exact .inr ⟨n, b, c, rfl, rfl, s _ _ h1⟩

theorem gd_ok {α : Type} {c : AV} {b : Bool} {x y : Option α} {v : α} (h : gd c b x y = some v) : (c = .s (.bool b) ∧ x = some v) ∨ ((∃ t, c = .s (.bool t) ∧ (t == b) = false ∨ ∃ l, c = .tup l) ∧ y = some v) := by
  unfold gd at h
  split at h
  · rename_i t
    cases t <;> cases b <;> simp only [F.ifb_eq] at h
    all_goals simp at h
    · exact .inl ⟨rfl, h⟩
    · exact .inr ⟨⟨false, .inl ⟨rfl, rfl⟩⟩, h⟩
    · exact .inr ⟨⟨true, .inl ⟨rfl, rfl⟩⟩, h⟩
    · exact .inl ⟨rfl, h⟩
  · rename_i l
    exact .inr ⟨⟨true, .inr ⟨l, rfl⟩⟩, h⟩
  · cases h

/-- A guard lets an operation run, or not. -/
theorem gdo_ok {e e' : Env} (s : Sub e e') {g : Option (Nat × Bool)} {g' : Option (AV × Bool)} (h : gv e g = some g') {α : Type} {x y : Option α} {v : α} (hv : gdo g' x y = some v) :
    (wants e' g = some true ∧ x = some v ∧ ∀ z, gdb g' z = z) ∨ (wants e' g = some false ∧ y = some v ∧ ∀ z, gdb g' z = true) := by
  rcases gv_ok s h with ⟨rfl, rfl⟩ | ⟨n, b, c, rfl, rfl, hc⟩
  · exact .inl ⟨rfl, hv, fun _ => rfl⟩
  · simp only [gdo] at hv
    rcases gd_ok hv with ⟨rfl, h1⟩ | ⟨⟨t, ⟨rfl, h2⟩ | ⟨l, rfl⟩⟩, h1⟩
    · exact .inl ⟨by simp [wants, hc], h1, fun z => by cases b <;> rfl⟩
    · exact .inr ⟨by simp only [wants, hc, h2], h1, fun z => by cases b <;> cases t <;> simp at h2 <;> rfl⟩
    · exact .inr ⟨by simp only [wants, hc], h1, fun z => rfl⟩

theorem runG_ok (hc : Le cl cl') : ∀ {os : List Or} {e e' : Env} {h : H} {k : Env → H → R} {o : AV × H}, Sub e e' → runG cl os e h k = some o →
    ∃ f f' h', runOps cl' os e' h = some (f', h') ∧ Sub f f' ∧ k f h' = some o
  | [], e, e', h, k, o, s, hr => ⟨e, e', h, rfl, s, hr⟩
  | x :: os, e, e', h, k, o, s, hr => by
    simp only [runG, ob_some] at hr
    obtain ⟨op, h1, g, h2, hr⟩ := hr
    obtain ⟨q1, -, -, -⟩ := sub_ok s h1
    have skip : ∀ {f : Env}, wants e' x.guard = some false → Sub f (setD e' x.dst (some nought)) → runG cl os f h k = some o → ∃ f f' h', runOps cl' (x :: os) e' h = some (f', h') ∧ Sub f f' ∧ k f h' = some o := by
      intro f hw hs hr
      obtain ⟨f1, f2, h', r1, r2, r3⟩ := runG_ok hc hs hr
      exact ⟨f1, f2, h', by simp only [runOps, hw]; exact r1, r2, r3⟩
    have go : ∀ {f : Env} {v : Option AV} {h' : H}, wants e' x.guard = some true → step1 cl' .nil h op = some (v, h') → Sub f (setD e' x.dst v) → runG cl os f h' k = some o → ∃ f f' h', runOps cl' (x :: os) e' h = some (f', h') ∧ Sub f f' ∧ k f h' = some o := by
      intro f v h' hw hs hf hr
      obtain ⟨f1, f2, h'', r1, r2, r3⟩ := runG_ok hc hf hr
      exact ⟨f1, f2, h'', by simp only [runOps, hw, q1, hs]; exact r1, r2, r3⟩
    split at hr
    · rename_i hs
      rw [ob_some] at hr
      obtain ⟨v, hv, hr⟩ := hr
      rcases gdo_ok s h2 hv with ⟨a, b, -⟩ | ⟨a, b, -⟩
      · exact go a (val_step cl' hs b) (s.setD _ _) hr
      · cases b; exact skip a (s.setD _ _) hr
    · rename_i hs
      rw [obh_some] at hr
      obtain ⟨v, h', hv, hr⟩ := hr
      rcases gdo_ok s h2 hv with ⟨a, b, -⟩ | ⟨a, b, -⟩
      · exact go a (mkv_step cl' hs b).2 (s.setD _ _) hr
      · cases b; exact skip a (s.setD _ _) hr
    · rename_i hs
      rw [obh_some] at hr
      obtain ⟨v, h', hv, hr⟩ := hr
      rcases gdo_ok s h2 hv with ⟨a, b, -⟩ | ⟨a, b, -⟩
      · exact go a (act_step hc hs b).2 (s.setD _ _) hr
      · cases b; exact skip a (s.setD _ _) hr
    · rename_i hs
      rw [ob_some] at hr
      obtain ⟨h', hv, hr⟩ := hr
      rcases gdo_ok s h2 hv with ⟨a, b, -⟩ | ⟨a, b, -⟩
      · exact go a (actn_step cl' hs b).2 (s.setN _ _) hr
      · cases b; exact skip a (s.setN _ _) hr

/-! ### the order is open -/

theorem same_ok {x : Option AV} {v : AV} (h : same x v = true) : x = some v := by
  unfold same at h
  split at h
  · simp only [Bool.and_eq_true, F.kq_eq, F.eqI_eq, beq_iff_eq] at h
    obtain ⟨rfl, rfl⟩ := h; rfl
  · rename_i i j q l
    rw [Bool.and_eq_true] at h
    have h1 := Nat.eq_of_beq_eq_true h.1
    have h2 := Nat.eq_of_beq_eq_true h.2
    subst h1; subst h2; rfl
  · rw [beq_iff_eq] at h; rw [h]
  · cases h

theorem rid_eq (op : Op) : rid op = rdId .nil op := by
  cases op <;> try rfl
  case ld a n x =>
    cases x with
    | t n => rfl
    | c v =>
      simp only [rid, rdId, evc]
      rcases v with (_ | _ | _ | (_ | ⟨i, o⟩) | _ | _ | _ | _) | _ | _ <;> rfl

theorem nb_ok {b i : Nat} : nb b i = false → b.testBit i = true := by simp [nb]

/-- What is asked again here is all that is asked there. -/
def RdsOk (l : List Rd) (m : List Rg) : Prop := ∀ r ∈ l, ∃ q ∈ m, q.i = r.i ∧ q.v = r.v ∧ sort q.op = .v ∧ q.op.cls = .read ∧ (∀ z, gdb q.g z = z) ∧ ∀ h, readOp r.e h r.op = readOp .nil h q.op

theorem val_read {op : Op} {h : H} (hs : sort op = .v) (hc : op.cls = .read) : val op h = readOp .nil h op := by
  rcases val_ok (h := h) hs with ⟨a, _⟩ | ⟨_, b⟩
  · rw [a] at hc; cases hc
  · exact b

theorem again_ok {h : H} {bef : Nat} : ∀ {l : List Rd} {m : List Rg}, RdsOk l m → again h (m.filter fun r => nb bef r.i) = true → reread h bef l = true
  | [], _, _, _ => rfl
  | r :: l, m, ok, ha => by
    have all : ∀ {m : List Rg}, again h m = true → ∀ q ∈ m, gdb q.g (same (val q.op h) q.v) = true := by
      intro m
      induction m with
      | nil => intro _ q hq; cases hq
      | cons q m ih =>
        intro hm
        simp only [again, Bool.and_eq_true] at hm
        intro q' hq'
        rcases List.mem_cons.1 hq' with rfl | hq'
        · exact hm.1
        · exact ih hm.2 q' hq'
    simp only [reread, Bool.and_eq_true]
    refine ⟨?_, again_ok (fun r hr => ok r (List.mem_cons_of_mem _ hr)) ha⟩
    obtain ⟨q, hq, h1, h2, h3, h4, h5, h6⟩ := ok r (by simp)
    cases hb : nb bef q.i with
    | false => rw [← h1, nb_ok hb]; rfl
    | true =>
      have := all ha q (List.mem_filter.2 ⟨hq, hb⟩)
      rw [h5] at this
      have := same_ok this
      rw [val_read h3 h4] at this
      rw [h6, this, h2]; simp

theorem ahead_ok {e' : Env} {op op' : Op} {v : AV} {bef : Nat} (hs : sort op' = .v) (hc : op'.cls = .read) (h1 : ∀ h, readOp e' h op = readOp .nil h op') (h2 : rdId e' op = rdId .nil op') : ∀ {l m : List (Nat × H)}, (∀ p ∈ l, p ∈ m) → ahead op' v (m.filter fun p => nb bef p.1) = true → early e' op v bef l = true
  | [], _, _, _ => rfl
  | p :: l, m, ok, ha => by
    have all : ∀ {m : List (Nat × H)}, ahead op' v m = true → ∀ q ∈ m, (or (Nat.ble q.2.nx (rid op')) (same (val op' q.2) v)) = true := by
      intro m
      induction m with
      | nil => intro _ q hq; cases hq
      | cons q m ih =>
        intro hm
        simp only [ahead, Bool.and_eq_true] at hm
        intro q' hq'
        rcases List.mem_cons.1 hq' with rfl | hq'
        · exact hm.1
        · exact ih hm.2 q' hq'
    obtain ⟨i, h⟩ := p
    simp only [early, Bool.and_eq_true, Bool.or_eq_true]
    cases hb : nb bef i with
    | false => exact .inl (nb_ok hb)
    | true =>
      right
      refine ⟨?_, ahead_ok hs hc h1 h2 (fun r hr => ok r (List.mem_cons_of_mem _ hr)) ha⟩
      have := all ha (i, h) (List.mem_filter.2 ⟨ok _ (by simp), hb⟩)
      simp only [Bool.or_eq_true, Nat.ble_eq, rid_eq] at this
      rcases this with a | a
      · left; rw [h2]; simpa using a
      · right
        have := same_ok a
        rw [val_read hs hc] at this
        rw [h1, this]; simp

theorem chk_ok {α : Type} {f : α → H} {m : List Rg} {o : Option α} {x : α} (h : chk f m o = some x) : o = some x ∧ again (f x) m = true := by
  unfold chk at h
  split at h
  · exact ⟨h, rfl⟩
  · rw [ob_some] at h
    obtain ⟨y, h1, h2⟩ := h
    rw [F.ifb_eq] at h2
    split at h2
    · rename_i h3
      cases h2
      exact ⟨h1, h3⟩
    · cases h2

theorem runGD_ok (hc : Le cl cl') : ∀ {os : List Or} {i : Nat} {l : List Rd} {m : List Rg} {past pasT : List (Nat × H)} {e e' : Env} {h : H} {k : Env → H → R} {o : AV × H}, Sub e e' → RdsOk l m → (∀ p ∈ past, p ∈ pasT) → runGD cl os i m pasT e h k = some o →
    ∃ f f' h', runOpsD cl' os i l past e' h = some (f', h') ∧ Sub f f' ∧ k f h' = some o
  | [], i, l, m, past, pasT, e, e', h, k, o, s, _, _, hr => ⟨e, e', h, rfl, s, hr⟩
  | x :: os, i, l, m, past, pasT, e, e', h, k, o, s, hl, hp, hr => by
    simp only [runGD, ob_some] at hr
    obtain ⟨op, h1, g, h2, hr⟩ := hr
    obtain ⟨q1, q2, q3, q4⟩ := sub_ok s h1
    have wide : ∀ q, RdsOk l (q :: m) := fun q r hr => by obtain ⟨z, hz, y⟩ := hl r hr; exact ⟨z, List.mem_cons_of_mem _ hz, y⟩
    have skip : ∀ {f : Env} {m' : List Rg} {p' : List (Nat × H)}, RdsOk l m' → (∀ p ∈ past, p ∈ p') → wants e' x.guard = some false → Sub f (setD e' x.dst (some nought)) → runGD cl os (i + 1) m' p' f h k = some o → ∃ f f' h', runOpsD cl' (x :: os) i l past e' h = some (f', h') ∧ Sub f f' ∧ k f h' = some o := by
      intro f m' p' hl hp hw hs hr
      obtain ⟨f1, f2, h', r1, r2, r3⟩ := runGD_ok hc hs hl hp hr
      exact ⟨f1, f2, h', by simp only [runOpsD, hw]; exact r1, r2, r3⟩
    split at hr
    · rename_i hs
      split at hr
      · rename_i hrd
        have hcl : op.cls = .read := by
          unfold isRd at hrd
          split at hrd
          · assumption
          · cases hrd
        rw [ob_some] at hr
        obtain ⟨v, hv, hr⟩ := hr
        rcases gdo_ok s h2 hv with ⟨a, b, c⟩ | ⟨a, b, c⟩
        · simp only [rdd, ob_some, F.ifb_eq] at b
          obtain ⟨v', b1, b2⟩ := b
          split at b2
          · rename_i b3
            cases b2
            simp only [Bool.and_eq_true] at b3
            have hlt : rdId e' x.op < h.nx := by rw [q4, ← rid_eq]; exact (by simpa [Nat.blt_eq] using b3.1)
            have hea := ahead_ok (bef := x.bef) hs hcl q2 q4 hp b3.2
            have hst := val_step cl' hs b1
            have hl' : RdsOk (⟨e', x.op, v, i⟩ :: l) (⟨g, op, v, i⟩ :: m) := by
              intro r hr
              rcases List.mem_cons.1 hr with rfl | hr
              · exact ⟨⟨g, op, v, i⟩, List.mem_cons_self, rfl, rfl, hs, hcl, c, q2⟩
              · exact wide _ r hr
            obtain ⟨f1, f2, h', r1, r2, r3⟩ := runGD_ok hc (s.setD x.dst v) hl' hp hr
            refine ⟨f1, f2, h', ?_, r2, r3⟩
            simp only [runOpsD, a, q1, hst, q3, hcl]
            rw [if_pos ⟨hlt, hea⟩]
            exact r1
          · cases b2
        · cases b
          exact skip (wide _) hp a (s.setD _ _) hr
      · rename_i hrd
        rw [ob_some] at hr
        obtain ⟨v, hv, hr⟩ := hr
        rcases gdo_ok s h2 hv with ⟨a, b, c⟩ | ⟨a, b, c⟩
        · have hst := val_step cl' hs b
          obtain ⟨f1, f2, h', r1, r2, r3⟩ := runGD_ok hc (s.setD x.dst v) hl hp hr
          refine ⟨f1, f2, h', ?_, r2, r3⟩
          have hcl : op.cls = .pure := by
            rcases val_ok (h := h) hs with ⟨z, _⟩ | ⟨z, _⟩
            · exact z
            · unfold isRd at hrd; rw [z] at hrd; cases hrd
          simp only [runOpsD, a, q1, hst, q3, hcl]
          exact r1
        · cases b
          exact skip hl hp a (s.setD _ _) hr
    · rename_i hs
      rw [obh_some] at hr
      obtain ⟨v, h', hv, hr⟩ := hr
      rcases gdo_ok s h2 hv with ⟨a, b, -⟩ | ⟨a, b, -⟩
      · obtain ⟨hcl, hst⟩ := mkv_step cl' hs b
        obtain ⟨f1, f2, h'', r1, r2, r3⟩ := runGD_ok hc (s.setD x.dst v) hl hp hr
        refine ⟨f1, f2, h'', ?_, r2, r3⟩
        simp only [runOpsD, a, q1, hst, q3, hcl]
        exact r1
      · cases b; exact skip hl hp a (s.setD _ _) hr
    · rename_i hs
      rw [obh_some] at hr
      obtain ⟨v, h', hv, hr⟩ := hr
      rcases gdo_ok s h2 hv with ⟨a, b, -⟩ | ⟨a, b, -⟩
      · obtain ⟨b, hag⟩ := chk_ok b
        obtain ⟨hcl, hst⟩ := act_step hc hs b
        have hp' : ∀ p ∈ (i, h) :: past, p ∈ (i, h) :: pasT := by
          intro p hp1
          rcases List.mem_cons.1 hp1 with rfl | hp1
          · simp
          · exact List.mem_cons_of_mem _ (hp p hp1)
        obtain ⟨f1, f2, h'', r1, r2, r3⟩ := runGD_ok hc (s.setD x.dst v) hl hp' hr
        refine ⟨f1, f2, h'', ?_, r2, r3⟩
        simp only [runOpsD, a, q1, hst, q3, hcl]
        rw [if_pos (again_ok hl hag)]
        exact r1
      · cases b; exact skip hl (fun p hp1 => List.mem_cons_of_mem _ (hp p hp1)) a (s.setD _ _) hr
    · rename_i hs
      rw [ob_some] at hr
      obtain ⟨h', hv, hr⟩ := hr
      rcases gdo_ok s h2 hv with ⟨a, b, -⟩ | ⟨a, b, -⟩
      · obtain ⟨b, hag⟩ := chk_ok b
        obtain ⟨hcl, hst⟩ := actn_step cl' hs b
        have hp' : ∀ p ∈ (i, h) :: past, p ∈ (i, h) :: pasT := by
          intro p hp1
          rcases List.mem_cons.1 hp1 with rfl | hp1
          · simp
          · exact List.mem_cons_of_mem _ (hp p hp1)
        obtain ⟨f1, f2, h'', r1, r2, r3⟩ := runGD_ok hc (s.setN x.dst none) hl hp' hr
        refine ⟨f1, f2, h'', ?_, r2, r3⟩
        simp only [runOpsD, a, q1, hst, q3, hcl]
        rw [if_pos (again_ok (h := h') hl hag)]
        exact r1
      · cases b; exact skip hl (fun p hp1 => List.mem_cons_of_mem _ (hp p hp1)) a (s.setN _ _) hr

end Go.AM.G
