/- The shallow reading is sound: control, functions. -/
import Derived.Test.YtfniiaghlkacaaaGreatGm3
namespace Go.AM.G
open Go Go.AM
set_option linter.unusedSimpArgs false

variable {cl cl' : Cl}

/-! ### what code may change -/

theorem runOps_far {os : List Or} : ∀ {e : Env} {h : H} {f : Env} {h' : H}, runOps cl os e h = some (f, h') → ∀ n, n ∉ dsts os → f.get n = e.get n := by
  induction os with
  | nil => intro e h f h' hr n _; simp only [runOps, Option.some.injEq, Prod.mk.injEq] at hr; rw [hr.1]
  | cons o os ih =>
    intro e h f h' hr n hn
    simp only [dsts, List.mem_append, not_or] at hn
    have hset : ∀ v, (setD e o.dst v).get n = e.get n := by
      intro v
      cases hd : o.dst with
      | none => rfl
      | some d =>
        simp only [setD, Tr.get_put]
        rw [if_neg]
        intro hq; subst hq; rw [hd] at hn; simp at hn
    simp only [runOps] at hr
    split at hr
    · split at hr
      · rw [ih hr n hn.2, hset]
      · cases hr
    · rw [ih hr n hn.2, hset]
    · cases hr

theorem runOpsD_far {os : List Or} : ∀ {i : Nat} {l : List Rd} {past : List (Nat × H)} {e : Env} {h : H} {f : Env} {h' : H}, runOpsD cl os i l past e h = some (f, h') → ∀ n, n ∉ dsts os → f.get n = e.get n := by
  induction os with
  | nil => intro i l past e h f h' hr n _; simp only [runOpsD, Option.some.injEq, Prod.mk.injEq] at hr; rw [hr.1]
  | cons o os ih =>
    intro i l past e h f h' hr n hn
    simp only [dsts, List.mem_append, not_or] at hn
    have hset : ∀ v, (setD e o.dst v).get n = e.get n := by
      intro v
      cases hd : o.dst with
      | none => rfl
      | some d =>
        simp only [setD, Tr.get_put]
        rw [if_neg]
        intro hq; subst hq; rw [hd] at hn; simp at hn
    simp only [runOpsD] at hr
    split at hr
    · split at hr
      · split at hr
        · split at hr
          · rw [ih hr n hn.2, hset]
          · cases hr
        · split at hr
          · rw [ih hr n hn.2, hset]
          · cases hr
        · rw [ih hr n hn.2, hset]
      · cases hr
    · rw [ih hr n hn.2, hset]
    · cases hr

theorem drop_far : ∀ {ds : List Nat} {e : Env} {n : Nat}, n ∉ ds → (drop e ds).get n = e.get n
  | [], _, _, _ => rfl
  | d :: ds, e, n, hn => by
    simp only [List.mem_cons, not_or] at hn
    simp only [drop]
    rw [drop_far hn.2, Tr.get_put, if_neg hn.1]

theorem exec_far : ∀ {k : Nat} {c : C} {e : Env} {h : H} {x : Ex} {f : Env} {h' : H}, exec cl k c e h = some (x, f, h') → ∀ n, n ∉ mods c → f.get n = e.get n
  | 0, _, _, _, _, _, _, hr, _, _ => by simp [exec] at hr
  | k + 1, c, e, h, x, f, h', hr, n, hn => by
    have ih := fun {c e h x f h'} (q : exec cl k c e h = some (x, f, h')) => exec_far q
    cases c with
    | skip => simp only [exec, Option.some.injEq, Prod.mk.injEq] at hr; rw [hr.2.1]
    | exit => simp only [exec, Option.some.injEq, Prod.mk.injEq] at hr; rw [hr.2.1]
    | ret => simp only [exec, Option.some.injEq, Prod.mk.injEq] at hr; rw [hr.2.1]
    | reg d ops ds =>
      simp only [mods, List.mem_append, not_or] at hn
      simp only [exec] at hr
      split at hr
      · rename_i e1 h1 hq
        simp only [Option.some.injEq, Prod.mk.injEq] at hr
        obtain ⟨-, rfl, -⟩ := hr
        rw [drop_far hn.2]
        split at hq
        · exact runOpsD_far hq n hn.1
        · exact runOps_far hq n hn.1
      · cases hr
    | seq a b =>
      simp only [mods, List.mem_append, not_or] at hn
      simp only [exec] at hr
      split at hr
      · rename_i e1 h1 hq
        rw [ih hr n hn.2, ih hq n hn.1]
      · exact ih hr n hn.1
    | cond q a b =>
      simp only [mods, List.mem_append, not_or] at hn
      simp only [exec] at hr
      split at hr
      · exact ih hr n hn.1
      · exact ih hr n hn.2
      · cases hr
    | blk id b =>
      simp only [mods] at hn
      simp only [exec] at hr
      split at hr
      · rename_i i e1 h1 hq
        split at hr <;> (simp only [Option.some.injEq, Prod.mk.injEq] at hr; rw [← hr.2.1]; exact ih hq n hn)
      · exact ih hr n hn
    | loop b =>
      simp only [mods] at hn
      simp only [exec] at hr
      split at hr
      · rename_i e1 h1 hq
        rw [ih hr n (by simpa only [mods] using hn), ih hq n hn]
      · exact ih hr n hn

/-! ### joins -/

theorem dropF_get : ∀ (ds : List Nat) (e : Env) (n : Nat), (dropF e ds).get n = if n ∈ ds then none else e.get n
  | [], e, n => by simp [dropF]
  | d :: ds, e, n => by
    simp only [dropF, F.put_eq]
    rw [dropF_get ds, Tr.get_put]
    by_cases h1 : n ∈ ds
    · simp [h1]
    · by_cases h2 : n = d
      · simp [h2]
      · simp [h1, h2]

theorem Sub.drop {e e' : Env} (s : Sub e e') (ds : List Nat) : Sub (dropF e ds) (AM.drop e' ds) := by
  induction ds generalizing e e' with
  | nil => exact s
  | cons d ds ih =>
    simp only [dropF, AM.drop, F.put_eq]
    exact ih (s.cut d none)

/-- What is handed on stands in the slots. -/
def Holds (e' : Env) : (L : List Nat) → Tup L → Prop
  | [], _ => True
  | [n], v => e'.get n = some v
  | n :: m :: l, p => e'.get n = some p.1 ∧ Holds e' (m :: l) p.2

theorem projK_ok {β : Type} {e e' : Env} (s : Sub e e') : ∀ {L : List Nat} {k : Tup L → Option β} {o : β}, projK e L k = some o → ∃ p, Holds e' L p ∧ k p = some o
  | [], k, o, h => ⟨(), trivial, h⟩
  | [n], k, o, h => by
    simp only [projK, ob_some, F.get_eq] at h
    obtain ⟨v, h1, h2⟩ := h
    exact ⟨v, s _ _ h1, h2⟩
  | n :: m :: l, k, o, h => by
    simp only [projK, ob_some, F.get_eq] at h
    obtain ⟨v, h1, h2⟩ := h
    obtain ⟨p, h3, h4⟩ := projK_ok s h2
    exact ⟨(v, p), ⟨s _ _ h1, h3⟩, h4⟩

theorem puts_sub {e' : Env} : ∀ {L : List Nat} {p : Tup L} {e : Env}, Sub e e' → Holds e' L p → Sub (puts e L p) e'
  | [], _, _, s, _ => s
  | [n], v, e, s, h => by
    simp only [puts, F.put_eq]
    intro m u hu
    rw [Tr.get_put] at hu
    split at hu
    · rename_i hm; subst hm; cases hu; exact h
    · exact s m u hu
  | n :: m :: l, p, e, s, h => by
    simp only [puts, F.put_eq]
    refine puts_sub ?_ h.2
    intro m u hu
    rw [Tr.get_put] at hu
    split at hu
    · rename_i hm; subst hm; cases hu; exact h.1
    · exact s m u hu

theorem join_sub {e e' f' : Env} (s : Sub e e') {M : List Nat} (far : ∀ n, n ∉ M → f'.get n = e'.get n) {L : List Nat} {p : Tup L} (hp : Holds f' L p) : Sub (puts (dropF e M) L p) f' := by
  refine puts_sub ?_ hp
  intro n v hv
  rw [dropF_get] at hv
  split at hv
  · cases hv
  · rename_i hn
    rw [far n hn]
    exact s n v hv

noncomputable def kont (κ : Kt) (xs : List (Nat × Kt)) (r : Kt) : Ex → Kt
  | .n => κ
  | .x id => look id xs
  | .r => r

/-- Code that was read runs so. -/
def Good (cl' : Cl) (c : C) (e' : Env) (h : H) (κ : Kt) (xs : List (Nat × Kt)) (r : Kt) (o : AV × H) : Prop :=
  ∃ k x f f' h', exec cl' k c e' h = some (x, f', h') ∧ Sub f f' ∧ kont κ xs r x f h' = some o

theorem cnd_ok {β : Type} {c : AV} {x y : Option β} {v : β} (h : cnd c x y = some v) : (c = .s (.bool true) ∧ x = some v) ∨ (c = .s (.bool false) ∧ y = some v) := by
  unfold cnd at h
  split at h
  · rename_i t
    cases t <;> rw [F.ifb_eq] at h
    · exact .inr ⟨rfl, h⟩
    · exact .inl ⟨rfl, h⟩
  · cases h

theorem fix_ok {e' : Env} {b : C} {L : List Nat} {xs : List (Nat × Kt)} {r κ : Kt} (F : (Tup L → H → R) → Tup L → H → R)
    (hF : ∀ (rec : Tup L → H → R) (p : Tup L) (f' : Env) (h : H) (o : AV × H), (∀ n, n ∉ mods b → f'.get n = e'.get n) → Holds f' L p → F rec p h = some o → Good cl' b f' h (fun g h => projK g L fun p => rec p h) xs r o) :
    ∀ (n : Nat) (p : Tup L) (f' : Env) (h : H) (o : AV × H), (∀ n, n ∉ mods b → f'.get n = e'.get n) → Holds f' L p → fixN F n p h = some o → Good cl' (.loop b) f' h κ xs r o
  | 0, p, f', h, o, _, _, hr => by cases hr
  | n + 1, p, f', h, o, far, hp, hr => by
    have hr : F (fixN F n) p h = some o := hr
    obtain ⟨k, x, f1, f2, h', r1, r2, r3⟩ := hF _ p f' h o far hp hr
    cases x with
    | n =>
      obtain ⟨q, hq, r4⟩ := projK_ok r2 r3
      obtain ⟨k2, x2, g1, g2, h2, t1, t2, t3⟩ := fix_ok F hF n q f2 h' o (fun m hm => (exec_far r1 m hm).trans (far m hm)) hq r4
      refine ⟨max k k2 + 1, x2, g1, g2, h2, ?_, t2, t3⟩
      simp only [exec]
      rw [exec_mono (fun _ _ _ _ q => q) (Nat.le_max_left k k2) r1]
      exact exec_mono (fun _ _ _ _ q => q) (Nat.le_max_right k k2) t1
    | x i => exact ⟨k + 1, .x i, f1, f2, h', by simp only [exec, r1], r2, r3⟩
    | r => exact ⟨k + 1, .r, f1, f2, h', by simp only [exec, r1], r2, r3⟩

theorem den_ok (hc : Le cl cl') : ∀ {d : D} {e e' : Env} {h : H} {κ : Kt} {xs : List (Nat × Kt)} {r : Kt} {o : AV × H}, Sub e e' → den fix cl d e h κ xs r = some o → Good cl' (er d) e' h κ xs r o
  | .skip, e, e', h, κ, xs, r, o, s, hr => ⟨1, .n, e, e', h, rfl, s, hr⟩
  | .exit id, e, e', h, κ, xs, r, o, s, hr => ⟨1, .x id, e, e', h, rfl, s, hr⟩
  | .ret, e, e', h, κ, xs, r, o, s, hr => ⟨1, .r, e, e', h, rfl, s, hr⟩
  | .reg dr ops ds, e, e', h, κ, xs, r, o, s, hr => by
    cases dr with
    | false =>
      simp only [den] at hr
      obtain ⟨f, f', h', r1, r2, r3⟩ := runG_ok hc s hr
      exact ⟨1, .n, _, _, h', by simp only [er, exec, Bool.false_eq_true, if_false, r1], r2.drop ds, r3⟩
    | true =>
      simp only [den] at hr
      obtain ⟨f, f', h', r1, r2, r3⟩ := runGD_ok hc s (l := []) (past := []) (fun r hr => by cases hr) (fun p hp => by cases hp) hr
      exact ⟨1, .n, _, _, h', by simp only [er, exec, if_true, r1], r2.drop ds, r3⟩
  | .seq a b, e, e', h, κ, xs, r, o, s, hr => by
    simp only [den] at hr
    obtain ⟨k, x, f, f', h', r1, r2, r3⟩ := den_ok hc s hr
    cases x with
    | n =>
      obtain ⟨k2, x2, g, g', h2, t1, t2, t3⟩ := den_ok hc r2 r3
      refine ⟨max k k2 + 1, x2, g, g', h2, ?_, t2, t3⟩
      simp only [er, exec]
      rw [exec_mono (fun _ _ _ _ q => q) (Nat.le_max_left k k2) r1]
      exact exec_mono (fun _ _ _ _ q => q) (Nat.le_max_right k k2) t1
    | x i => exact ⟨k + 1, .x i, f, f', h', by simp only [er, exec, r1], r2, r3⟩
    | r => exact ⟨k + 1, .r, f, f', h', by simp only [er, exec, r1], r2, r3⟩
  | .cond none c a b, e, e', h, κ, xs, r, o, s, hr => by
    simp only [den, ob_some, F.ev_eq] at hr
    obtain ⟨v, h1, hr⟩ := hr
    have hx : c.ev e' = some v := by
      cases c with
      | t n => exact s _ _ h1
      | c u => exact h1
    rcases cnd_ok hr with ⟨rfl, hr⟩ | ⟨rfl, hr⟩
    · obtain ⟨k, x, f, f', h', r1, r2, r3⟩ := den_ok hc s hr
      exact ⟨k + 1, x, f, f', h', by simp only [er, exec, hx, r1], r2, r3⟩
    · obtain ⟨k, x, f, f', h', r1, r2, r3⟩ := den_ok hc s hr
      exact ⟨k + 1, x, f, f', h', by simp only [er, exec, hx, r1], r2, r3⟩
  | .cond (some L) c a b, e, e', h, κ, xs, r, o, s, hr => by
    simp only [den, letJ, ob_some, F.ev_eq] at hr
    obtain ⟨v, h1, hr⟩ := hr
    have hx : c.ev e' = some v := by
      cases c with
      | t n => exact s _ _ h1
      | c u => exact h1
    rcases cnd_ok hr with ⟨rfl, hr⟩ | ⟨rfl, hr⟩
    · obtain ⟨k, x, f, f', h', r1, r2, r3⟩ := den_ok hc s hr
      have ex : exec cl' (k + 1) (.cond c (er a) (er b)) e' h = some (x, f', h') := by simp only [exec, hx, r1]
      cases x with
      | n =>
        obtain ⟨p, hp, r4⟩ := projK_ok r2 r3
        exact ⟨k + 1, .n, _, f', h', ex, join_sub s (fun n hn => exec_far r1 n (fun q => hn (List.mem_append_left _ q))) hp, r4⟩
      | x i => exact ⟨k + 1, .x i, f, f', h', ex, r2, r3⟩
      | r => exact ⟨k + 1, .r, f, f', h', ex, r2, r3⟩
    · obtain ⟨k, x, f, f', h', r1, r2, r3⟩ := den_ok hc s hr
      have ex : exec cl' (k + 1) (.cond c (er a) (er b)) e' h = some (x, f', h') := by simp only [exec, hx, r1]
      cases x with
      | n =>
        obtain ⟨p, hp, r4⟩ := projK_ok r2 r3
        exact ⟨k + 1, .n, _, f', h', ex, join_sub s (fun n hn => exec_far r1 n (fun q => hn (List.mem_append_right _ q))) hp, r4⟩
      | x i => exact ⟨k + 1, .x i, f, f', h', ex, r2, r3⟩
      | r => exact ⟨k + 1, .r, f, f', h', ex, r2, r3⟩
  | .blk none id b, e, e', h, κ, xs, r, o, s, hr => by
    simp only [den] at hr
    obtain ⟨k, x, f, f', h', r1, r2, r3⟩ := den_ok hc s hr
    cases x with
    | n => exact ⟨k + 1, .n, f, f', h', by simp only [er, exec, r1], r2, r3⟩
    | x i =>
      simp only [kont, look, F.ifb_eq] at r3
      by_cases hi : i = id
      · subst hi
        have : Nat.beq i i = true := by simp
        rw [if_pos this] at r3
        exact ⟨k + 1, .n, f, f', h', by simp [er, exec, r1], r2, r3⟩
      · have : ¬ Nat.beq id i = true := fun q => hi (by simpa using Nat.eq_of_beq_eq_true q |>.symm)
        rw [if_neg this] at r3
        exact ⟨k + 1, .x i, f, f', h', by simp [er, exec, r1, hi], r2, r3⟩
    | r => exact ⟨k + 1, .r, f, f', h', by simp only [er, exec, r1], r2, r3⟩
  | .blk (some L) id b, e, e', h, κ, xs, r, o, s, hr => by
    simp only [den, letJ] at hr
    obtain ⟨k, x, f, f', h', r1, r2, r3⟩ := den_ok hc s hr
    cases x with
    | n =>
      obtain ⟨p, hp, r4⟩ := projK_ok r2 r3
      exact ⟨k + 1, .n, _, f', h', by simp only [er, exec, r1], join_sub s (fun n hn => exec_far r1 n hn) hp, r4⟩
    | x i =>
      simp only [kont, look, F.ifb_eq] at r3
      by_cases hi : i = id
      · subst hi
        have : Nat.beq i i = true := by simp
        rw [if_pos this] at r3
        obtain ⟨p, hp, r4⟩ := projK_ok r2 r3
        exact ⟨k + 1, .n, _, f', h', by simp [er, exec, r1], join_sub s (fun n hn => exec_far r1 n hn) hp, r4⟩
      · have : ¬ Nat.beq id i = true := fun q => hi (by simpa using Nat.eq_of_beq_eq_true q |>.symm)
        rw [if_neg this] at r3
        exact ⟨k + 1, .x i, f, f', h', by simp [er, exec, r1, hi], r2, r3⟩
    | r => exact ⟨k + 1, .r, f, f', h', by simp only [er, exec, r1], r2, r3⟩
  | .loop L b, e, e', h, κ, xs, r, o, s, hr => by
    simp only [den, fix] at hr
    obtain ⟨p, hp, hr⟩ := projK_ok s hr
    refine fix_ok (e' := e') _ (fun rec p f' h o far hp hr => ?_) fuel p e' h o (fun _ _ => rfl) hp hr
    exact den_ok hc (join_sub s far hp) hr

theorem resG_ok {e e' : Env} (s : Sub e e') {h : H} : ∀ {rs : List RV} {k : List AV → R} {o : AV × H}, resG e h rs k = some o → ∃ vs, results h e' rs = some vs ∧ k vs = some o
  | [], k, o, hr => ⟨[], rfl, hr⟩
  | .t n :: rs, k, o, hr => by
    simp only [resG, ob_some, F.get_eq] at hr
    obtain ⟨v, h1, h2⟩ := hr
    obtain ⟨vs, h3, h4⟩ := resG_ok s h2
    exact ⟨v :: vs, by simp only [results, s _ _ h1, h3], h4⟩
  | .cell n a sz :: rs, k, o, hr => by
    simp only [resG, ob_some, F.get_eq] at hr
    obtain ⟨p, h1, v, h2, h3⟩ := hr
    obtain ⟨vs, h4, h5⟩ := resG_ok s h3
    refine ⟨v :: vs, ?_, h5⟩
    rw [ld_eq] at h2
    simp only [results, readOp, X.ev, s _ _ h1] at h2 ⊢
    simp only [h2, h4]

theorem out_ok {vs : List AV} {h h' : H} {v : AV} (hr : out vs h = some (v, h')) : tupled vs = some v ∧ h' = h := by
  unfold out at hr
  split at hr
  · cases hr; exact ⟨rfl, rfl⟩
  · simp only [ob_some, Option.some.injEq, Prod.mk.injEq] at hr
    obtain ⟨u, h1, rfl, rfl⟩ := hr
    exact ⟨h1, rfl⟩

/-- A function that was read gives what its code gives. -/
theorem denF_ok {tab : FuncId → Option Entry} (hc : Le cl (lim tab)) {f : FuncId} {d : Df} (ht : tab f = some (.code d.fn)) {vs : List AV} {h : H} {o : AV × H} (hr : denF fix cl d vs h = some o) : lim tab f vs h = some o := by
  unfold denF at hr
  rw [F.setArgs_eq] at hr
  obtain ⟨k, x, g, g', h', r1, r2, r3⟩ := den_ok hc (e' := setArgs (Tr.perf d.depth) 0 vs) (fun _ _ q => q) hr
  obtain ⟨v, h''⟩ := o
  have key : ∀ {g : Env}, Sub g g' → (resG g h' d.results fun vs => out vs h') = some (v, h'') → (results h' g' d.results).bind tupled = some v ∧ h'' = h' := by
    intro g s q
    obtain ⟨us, h1, h2⟩ := resG_ok s q
    obtain ⟨h3, h4⟩ := out_ok h2
    exact ⟨by rw [h1]; exact h3, h4⟩
  cases x with
  | n =>
    obtain ⟨a, rfl⟩ := key r2 r3
    exact lim_code ht (.inl rfl) r1 a
  | x i => cases r3
  | r =>
    obtain ⟨a, rfl⟩ := key r2 r3
    exact lim_code ht (.inr rfl) r1 a

end Go.AM.G
