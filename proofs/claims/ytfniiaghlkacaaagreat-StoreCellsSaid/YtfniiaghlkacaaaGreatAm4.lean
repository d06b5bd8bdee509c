/- Equality of structs and arrays; slices; the rest of what touches no memory. -/
import Derived.Test.YtfniiaghlkacaaaGreatAm3
import Derived.DeepKeys
namespace Go.AM
open Go

/-- A value of a type, of its cells. -/
def mkV (P : Program) (t : TypeId) (xs : List Value) : Value := if agg? P t = some true then .agg xs.toArray else xs.headD undef

section
variable {P : Program} {ρ : Ren}

theorem isAgg_run {t : TypeId} {g : Bool} (h : agg? P t = some g) (w : World) : (isAgg t).run P w = .ok g w := by
  unfold agg? at h
  simp only [Option.map_eq_some_iff] at h
  obtain ⟨d, hd, rfl⟩ := h
  simp only [isAgg, Sem.run_bind, run_underlying hd, Result.andThen_ok]
  cases d <;> rfl

theorem size_run {t : TypeId} {n : Nat} (h : size? P t = some n) (w : World) : (sizeOf t).run P w = .ok n w := by
  unfold size? at h
  simp only [Option.map_eq_some_iff] at h
  obtain ⟨i, hi, rfl⟩ := h
  rw [run_sizeOf w hi]
  simp [Program.cellsOf, hi]

theorem cellsOf_of {t : TypeId} {n : Nat} (h : size? P t = some n) : P.cellsOf t = n := by
  unfold size? at h
  simp [Program.cellsOf, h]

theorem size_of_info {t : TypeId} (h : (P.info? t).isSome) : size? P t = some (P.cellsOf t) := by
  unfold size? Program.cellsOf
  cases hi : P.info? t with
  | none => simp [hi] at h
  | some i => rfl

theorem part_run {t : TypeId} {g : Bool} {n : Nat} (hg : agg? P t = some g) (hn : size? P t = some n) (h1 : g = true ∨ n = 1) {xs : Array Value} {off : Nat} (hl : off + n ≤ xs.size) (w : World) :
    (Go.part t xs off).run P w = .ok (mkV P t ((xs.toList.drop off).take n)) w := by
  simp only [Go.part, Sem.run_bind, isAgg_run hg, Result.andThen_ok, mkV, hg]
  cases g with
  | true =>
    simp only [if_true, Sem.run_bind, size_run hn, Result.andThen_ok, Sem.run_pure]
    congr 2
    apply Array.ext'
    simp [Array.toList_extract, List.extract_eq_take_drop]
  | false =>
    have : n = 1 := by simpa using h1
    subst this
    have h0 : off < xs.size := by omega
    simp only [Bool.false_eq_true, if_false, Option.some.injEq]
    rw [Array.getElem?_eq_getElem h0]
    simp only [Sem.run_pure]
    congr 1
    rw [List.drop_eq_getElem_cons (by simpa using h0)]
    simp

theorem eqcs_append : ∀ {ks ks' : List K} {cs ds : List SV} {r : Bool}, eqcs (ks ++ ks') cs ds = some r →
    ∃ r1 r2, eqcs ks (cs.take ks.length) (ds.take ks.length) = some r1 ∧ eqcs ks' (cs.drop ks.length) (ds.drop ks.length) = some r2 ∧ r = (r1 && r2)
  | [], ks', cs, ds, r, h => ⟨true, r, by simp [eqcs], by simpa using h, by simp⟩
  | k :: ks, ks', [], ds, r, h => by simp [eqcs] at h
  | k :: ks, ks', c :: cs, [], r, h => by simp [eqcs] at h
  | k :: ks, ks', c :: cs, d :: ds, r, h => by
    simp only [List.cons_append, eqcs] at h
    cases h1 : eqc k c d with
    | none => simp [h1] at h
    | some x =>
      cases h2 : eqcs (ks ++ ks') cs ds with
      | none => simp [h1, h2] at h
      | some y =>
        simp [h1, h2] at h
        subst h
        obtain ⟨r1, r2, e1, e2, rfl⟩ := eqcs_append h2
        exact ⟨x && r1, r2, by simp [eqcs, h1, e1], by simpa using e2, by simp [Bool.and_assoc]⟩

theorem eqcs_len : ∀ {ks : List K} {cs ds : List SV} {r : Bool}, eqcs ks cs ds = some r → cs.length = ks.length ∧ ds.length = ks.length
  | [], [], [], _, _ => ⟨rfl, rfl⟩
  | [], [], _ :: _, _, h => by simp [eqcs] at h
  | [], _ :: _, _, _, h => by simp [eqcs] at h
  | k :: ks, [], ds, r, h => by simp [eqcs] at h
  | k :: ks, c :: cs, [], r, h => by simp [eqcs] at h
  | k :: ks, c :: cs, d :: ds, r, h => by
    simp only [eqcs] at h
    cases h1 : eqc k c d with
    | none => simp [h1] at h
    | some x =>
      cases h2 : eqcs ks cs ds with
      | none => simp [h1, h2] at h
      | some y =>
        have := eqcs_len h2
        simp [this]

theorem eqc_b {u v : SV} {r : Bool} (h : eqc .b u v = some r) : ∃ a b, u = .bool a ∧ v = .bool b ∧ r = (a == b) := by
  cases u <;> cases v <;> simp [eqc] at h
  exact ⟨_, _, rfl, rfl, h.symm⟩
theorem eqc_i {u v : SV} {r : Bool} (h : eqc .i u v = some r) : ∃ k a b, u = .int k a ∧ v = .int k b ∧ r = (a == b) := by
  cases u <;> cases v <;> simp [eqc] at h
  obtain ⟨rfl, h⟩ := h
  exact ⟨_, _, _, rfl, rfl, h.symm⟩
theorem eqc_s {u v : SV} {r : Bool} (h : eqc .s u v = some r) : ∃ a b, u = .str a ∧ v = .str b ∧ r = (a == b) := by
  cases u <;> cases v <;> simp [eqc] at h
  exact ⟨_, _, rfl, rfl, h.symm⟩

/-- Equality of values of a type is equality of their cells. -/
def EqAt (P : Program) (ρ : Ren) (d : Nat) (t : TypeId) (ks : List K) : Prop :=
  ks.length = P.cellsOf t ∧ (P.info? t).isSome ∧ (∃ g, agg? P t = some g ∧ (g = true ∨ P.cellsOf t = 1)) ∧
    ∀ (cs ds : List SV) (xs ys : List Value) (r : Bool) (D : Nat) (w : World), All2 (SRel ρ) cs xs → All2 (SRel ρ) ds ys → eqcs ks cs ds = some r →
      (Op.equalIn (D + d) t (mkV P t xs) (mkV P t ys)).run P w = .ok r w

theorem eqFields_run (d : Nat) (IH : ∀ t ks, kinds P d t = some ks → EqAt P ρ d t ks) : ∀ (fs : List Field) (off tot : Nat) (ks : List K), kindsOf (kinds P d) fs = some ks → runs P off fs = some tot →
    ks.length + off = tot ∧ ∀ (X Y : List Value) (cs ds : List SV) (r : Bool) (D : Nat) (w : World), off ≤ X.length → off ≤ Y.length → All2 (SRel ρ) cs (X.drop off) → All2 (SRel ρ) ds (Y.drop off) → eqcs ks cs ds = some r →
      (Op.eqFields (D + d) X.toArray Y.toArray fs).run P w = .ok r w
  | [], off, tot, ks, hk, hr => by
    simp [kindsOf] at hk; simp [runs] at hr
    subst hk; subst hr
    refine ⟨by simp, fun X Y cs ds r D w ox oy hx hy h => ?_⟩
    cases cs with
    | nil => cases ds with
      | nil => simp [eqcs] at h; subst h; simp [Op.eqFields]
      | cons => simp [eqcs] at h
    | cons => simp [eqcs] at h
  | f :: fs, off, tot, ks, hk, hr => by
    simp only [kindsOf] at hk
    by_cases hn : f.name = "_"
    · simp [hn] at hk
    simp only [hn, if_false] at hk
    cases h1 : kinds P d f.type with
    | none => simp [h1] at hk
    | some k1 =>
      cases h2 : kindsOf (kinds P d) fs with
      | none => simp [h1, h2] at hk
      | some k2 =>
        simp [h1, h2] at hk
        subst hk
        simp only [runs] at hr
        by_cases ho : f.offset = off
        · simp only [ho, if_true] at hr
          obtain ⟨l1, hi, ⟨g, hg, hg1⟩, q1⟩ := IH _ _ h1
          obtain ⟨l2, q2⟩ := eqFields_run d IH fs _ tot k2 h2 hr
          refine ⟨by simp; omega, fun X Y cs ds r D w ox oy hx hy h => ?_⟩
          obtain ⟨r1, r2, e1, e2, rfl⟩ := eqcs_append h
          have hlen := eqcs_len h
          have lx := hx.length
          have ly := hy.length
          simp only [List.length_append, List.length_drop] at hlen lx ly
          have hX : off + P.cellsOf f.type ≤ X.toArray.size := by simp; omega
          have hY : off + P.cellsOf f.type ≤ Y.toArray.size := by simp; omega
          have p1 := part_run hg (size_of_info hi) hg1 hX w
          have p2 := part_run hg (size_of_info hi) hg1 hY w
          have hq := q1 _ _ _ _ r1 D w (hx.take k1.length) (hy.take k1.length) e1
          have hrest := q2 X Y _ _ r2 D w (by omega) (by omega) (by have := hx.drop k1.length; rwa [List.drop_drop, show off + k1.length = off + P.cellsOf f.type by omega] at this) (by have := hy.drop k1.length; rwa [List.drop_drop, show off + k1.length = off + P.cellsOf f.type by omega] at this) e2
          simp only [Op.eqFields, ne_eq, hn, not_false_eq_true, if_true, Sem.run_bind, ho, p1, p2, Result.andThen_ok]
          rw [l1] at hq
          simp only [hq, Result.andThen_ok, Sem.run_ite, hrest]
          cases r1 <;> simp
        · simp [ho] at hr

theorem eqItems_run (d : Nat) {e : TypeId} {ks : List K} (IH : EqAt P ρ d e ks) : ∀ (n i : Nat) (X Y : List Value) (cs ds : List SV) (r : Bool) (D : Nat) (w : World),
    i * P.cellsOf e ≤ X.length → i * P.cellsOf e ≤ Y.length → All2 (SRel ρ) cs (X.drop (i * P.cellsOf e)) → All2 (SRel ρ) ds (Y.drop (i * P.cellsOf e)) → eqcs (List.replicate n ks).flatten cs ds = some r →
      (Op.eqItems (D + d) e (P.cellsOf e) X.toArray Y.toArray (List.range' i n)).run P w = .ok r w
  | 0, i, X, Y, cs, ds, r, D, w, ox, oy, hx, hy, h => by
    cases cs with
    | nil => cases ds with
      | nil => simp [eqcs] at h; subst h; simp [Op.eqItems]
      | cons => simp [eqcs] at h
    | cons => simp [eqcs] at h
  | n + 1, i, X, Y, cs, ds, r, D, w, ox, oy, hx, hy, h => by
    obtain ⟨l1, hi, ⟨g, hg, hg1⟩, q1⟩ := IH
    rw [List.replicate_succ, List.flatten_cons] at h
    obtain ⟨r1, r2, e1, e2, rfl⟩ := eqcs_append h
    have hlen := eqcs_len h
    have lx := hx.length
    have ly := hy.length
    simp only [List.length_append, List.length_drop] at hlen lx ly
    have hX : i * P.cellsOf e + P.cellsOf e ≤ X.toArray.size := by simp; omega
    have hY : i * P.cellsOf e + P.cellsOf e ≤ Y.toArray.size := by simp; omega
    have p1 := part_run hg (size_of_info hi) hg1 hX w
    have p2 := part_run hg (size_of_info hi) hg1 hY w
    have hq := q1 _ _ _ _ r1 D w (hx.take ks.length) (hy.take ks.length) e1
    have hrest := eqItems_run d ⟨l1, hi, ⟨g, hg, hg1⟩, q1⟩ n (i + 1) X Y _ _ r2 D w (by rw [Nat.succ_mul]; omega) (by rw [Nat.succ_mul]; omega) (by have := hx.drop ks.length; rwa [List.drop_drop, show i * P.cellsOf e + ks.length = (i + 1) * P.cellsOf e by rw [Nat.succ_mul]; omega] at this) (by have := hy.drop ks.length; rwa [List.drop_drop, show i * P.cellsOf e + ks.length = (i + 1) * P.cellsOf e by rw [Nat.succ_mul]; omega] at this) e2
    rw [List.range'_succ]
    simp only [Op.eqItems, Sem.run_bind, p1, p2, Result.andThen_ok]
    rw [l1] at hq
    simp only [hq, Result.andThen_ok, Sem.run_ite, hrest]
    cases r1 <;> simp

theorem eq_run : ∀ (d : Nat) (t : TypeId) (ks : List K), kinds P d t = some ks → EqAt P ρ d t ks
  | 0, t, ks, h => by simp [kinds] at h
  | d + 1, t, ks, h => by
    rw [kinds] at h
    split at h
    case isFalse => cases h
    rename_i hi
    have one : ∀ {k : K} {cs ds : List SV} {xs ys : List Value} {r : Bool}, All2 (SRel ρ) cs xs → All2 (SRel ρ) ds ys → eqcs [k] cs ds = some r →
        ∃ c e x y, cs = [c] ∧ ds = [e] ∧ xs = [x] ∧ ys = [y] ∧ SRel ρ c x ∧ SRel ρ e y ∧ eqc k c e = some r := by
      intro k cs ds xs ys r hx hy h
      obtain ⟨l1, l2⟩ := eqcs_len h
      match cs, ds, l1, l2 with
      | [c], [e], _, _ =>
        obtain ⟨x, rfl, hx'⟩ := hx.one_inv
        obtain ⟨y, rfl, hy'⟩ := hy.one_inv
        refine ⟨c, e, x, y, rfl, rfl, rfl, rfl, hx', hy', ?_⟩
        simp only [eqcs] at h
        cases h1 : eqc k c e with
        | none => simp [h1] at h
        | some q => simp [h1] at h; subst h; rfl
    split at h
    · rename_i hu
      split at h
      case isFalse => cases h
      rename_i hc
      cases h
      have hg : agg? P t = some false := by simp [agg?, hu]
      refine ⟨hc.symm, hi, ⟨false, hg, .inr hc⟩, fun cs ds xs ys r D w hx hy h => ?_⟩
      obtain ⟨c, e, x, y, rfl, rfl, rfl, rfl, hx', hy', h'⟩ := one hx hy h
      simp only [mkV, hg, Option.some.injEq, Bool.false_eq_true, if_false, List.headD_cons]
      obtain ⟨_, _, rfl, rfl, rfl⟩ := eqc_b h'
      cases hx'; cases hy'
      exact run_equalIn_bool' w (D + d) t _ _ hu
    · rename_i q hu
      split at h
      case isFalse => cases h
      rename_i hc
      cases h
      have hg : agg? P t = some false := by simp [agg?, hu]
      refine ⟨hc.symm, hi, ⟨false, hg, .inr hc⟩, fun cs ds xs ys r D w hx hy h => ?_⟩
      obtain ⟨c, e, x, y, rfl, rfl, rfl, rfl, hx', hy', h'⟩ := one hx hy h
      simp only [mkV, hg, Option.some.injEq, Bool.false_eq_true, if_false, List.headD_cons]
      obtain ⟨_, _, _, rfl, rfl, rfl⟩ := eqc_i h'
      cases hx'; cases hy'
      exact run_equalIn_int w (D + d) t _ q _ _ hu
    · rename_i hu
      split at h
      case isFalse => cases h
      rename_i hc
      cases h
      have hg : agg? P t = some false := by simp [agg?, hu]
      refine ⟨hc.symm, hi, ⟨false, hg, .inr hc⟩, fun cs ds xs ys r D w hx hy h => ?_⟩
      obtain ⟨c, e, x, y, rfl, rfl, rfl, rfl, hx', hy', h'⟩ := one hx hy h
      simp only [mkV, hg, Option.some.injEq, Bool.false_eq_true, if_false, List.headD_cons]
      obtain ⟨a, b, rfl, rfl, rfl⟩ := eqc_s h'
      cases hx'; cases hy'
      have := run_equalIn_string w (D + d) t ⟨a.toArray⟩ ⟨b.toArray⟩ hu
      simp only [toList_mk] at this
      exact this
    · rename_i fs hu
      split at h
      case isFalse => cases h
      rename_i hc
      have hg : agg? P t = some true := by simp [agg?, hu]
      obtain ⟨l, q⟩ := eqFields_run d (fun t ks h => eq_run d t ks h) fs.toList 0 _ ks h hc.2
      refine ⟨by omega, hi, ⟨true, hg, .inl rfl⟩, fun cs ds xs ys r D w hx hy h => ?_⟩
      simp only [mkV, hg, if_true]
      have hf : P.fieldsOf t = fs := by simp [Program.fieldsOf, hu]
      rw [← Nat.add_assoc, run_equalIn_struct w (D + d) t _ _ (by rw [hf]; exact hu) hc.1, hf]
      exact q xs ys cs ds r D w (by simp) (by simp) (by simpa using hx) (by simpa using hy) h
    · rename_i n e hu
      split at h
      case isFalse => cases h
      rename_i hc
      have hg : agg? P t = some true := by simp [agg?, hu]
      simp only [Option.map_eq_some_iff] at h
      obtain ⟨k1, h1, rfl⟩ := h
      have q := eq_run d e k1 h1
      obtain ⟨ie, hie⟩ := Option.isSome_iff_exists.1 q.2.1
      refine ⟨by simp [q.1, hc], hi, ⟨true, hg, .inl rfl⟩, fun cs ds xs ys r D w hx hy h => ?_⟩
      simp only [mkV, hg, if_true]
      rw [← Nat.add_assoc, run_equalIn_array w (D + d) _ _ hu hie, List.range_eq_range']
      exact eqItems_run d q n 0 xs ys cs ds r D w (by simp) (by simp) (by simpa using hx) (by simpa using hy) h
    · cases h

end
end Go.AM
