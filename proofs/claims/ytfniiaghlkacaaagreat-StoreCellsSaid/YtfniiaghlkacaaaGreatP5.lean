/- store.Cells: a state's bytes in its cells. -/
import Derived.Test.YtfniiaghlkacaaaGreatP20
namespace Go.AM.T20
open Go Go.AM Go.AM.G
set_option linter.unusedSimpArgs false

variable {fx : Fx} {cl : Cl}

/-- Bytes that came in. -/
def Arg (h : H) (v : AV) (bs : List UInt8) : Prop := (v = .s (.sl none 0 0 true 1) ∧ bs = []) ∨ ∃ i o cap, v = .s (.sl (some (i, o)) bs.length cap true 1) ∧ i < h.nx ∧ cellsAt h i o bs.length = some (by8 bs) ∧ bs.length ≤ cap

theorem Arg.ext {h h' : H} {v : AV} {bs : List UInt8} (e : Ext h h') : Arg h v bs → Arg h' v bs
  | .inl a => .inl a
  | .inr ⟨i, o, cap, a, b, c, d⟩ => .inr ⟨i, o, cap, a, by have := e.nx; omega, by rw [cellsAt_ext e b]; exact c, d⟩

theorem Arg.len {h : H} {v : AV} {bs : List UInt8} (a : Arg h v bs) (n : Nat) : pv (.len (.sl n) (.c v)) = some (.s (.int .i64 bs.length)) := by
  rcases a with ⟨rfl, rfl⟩ | ⟨i, o, cap, rfl, _⟩ <;> rfl

theorem slc_hi {sz len cap n : Nat} {a : Option (Nat × Nat)} {ex : Bool} (h : n ≤ cap) : pv (.slc (.sl sz) (.c (.s (.sl a len cap ex sz))) none (some (.c (.s (.int .i64 n)))) none) = some (.s (.sl a n cap ex sz)) := by
  simp [pv, pureOp, slc, bound, evc, h]

theorem slc_lo {sz len cap n : Nat} {a : Option (Nat × Nat)} {ex : Bool} (h : n ≤ len) : pv (.slc (.sl sz) (.c (.s (.sl a len cap ex sz))) (some (.c (.s (.int .i64 n)))) none none) = some (.s (.sl (a.map fun p => (p.1, p.2 + n * sz)) (len - n) (cap - n) ex sz)) := by
  have h' : (n : Int) ≤ len := by omega
  simp [pv, pureOp, slc, bound, evc, h, h']

theorem cells_sub' {h : H} {i o n : Nat} {bs : List UInt8} (hc : cellsAt h i o n = some (by8 bs)) {k m : Nat} (hk : k + m ≤ n) : cellsAt h i (o + k) m = some (by8 ((bs.drop k).take m)) := by
  rw [cells_sub hc hk]
  simp [by8, List.map_drop, List.map_take]

theorem Arg.hi {h : H} {v : AV} {bs : List UInt8} (a : Arg h v bs) {n : Nat} (hn : n ≤ bs.length) : ∃ u, pv (.slc (.sl 1) (.c v) none (some (.c (.s (.int .i64 n)))) none) = some u ∧ Arg h u (bs.take n) := by
  rcases a with ⟨rfl, rfl⟩ | ⟨i, o, cap, rfl, b, c, d⟩
  · obtain rfl : n = 0 := by simpa using hn
    exact ⟨_, rfl, .inl ⟨rfl, rfl⟩⟩
  · refine ⟨_, slc_hi (by omega), .inr ⟨i, o, cap, ?_, b, ?_, ?_⟩⟩
    · rw [List.length_take, Nat.min_eq_left hn]
    · rw [List.length_take, Nat.min_eq_left hn]
      have := cells_sub' (k := 0) (m := n) c (by omega)
      simpa using this
    · rw [List.length_take]; omega

theorem Arg.lo {h : H} {v : AV} {bs : List UInt8} (a : Arg h v bs) {n : Nat} (hn : n ≤ bs.length) : ∃ u, pv (.slc (.sl 1) (.c v) (some (.c (.s (.int .i64 n)))) none none) = some u ∧ Arg h u (bs.drop n) := by
  rcases a with ⟨rfl, rfl⟩ | ⟨i, o, cap, rfl, b, c, d⟩
  · obtain rfl : n = 0 := by simpa using hn
    exact ⟨_, rfl, .inl ⟨rfl, rfl⟩⟩
  · refine ⟨_, slc_lo hn, .inr ⟨i, o + n * 1, cap - n, ?_, b, ?_, ?_⟩⟩
    · rw [List.length_drop]; rfl
    · have := cells_sub' (k := n) (m := bs.length - n) c (by omega)
      rw [List.length_drop, Nat.mul_one, this, List.take_of_length_le (by simp)]
    · rw [List.length_drop]; omega

theorem clone_arg {h : H} {v : AV} {bs : List UInt8} (a : Arg h v bs) (hL : bs.length ≤ 1000000) : ∃ d h', g79 fx cl v h = some (.s d, h') ∧ Ext h h' ∧
    ((d = .sl none 0 0 true 1 ∧ bs = []) ∨ ∃ c cap ex, d = .sl (some (c, 0)) bs.length cap ex 1 ∧ h.nx ≤ c ∧ c < h'.nx ∧ h'.get c = some (.cells (by8 bs) 5 false)) := by
  rcases a with ⟨rfl, rfl⟩ | ⟨i, o, cap, rfl, b, c, d⟩
  · refine ⟨.sl none 0 0 true 1, h, ?_, Ext.refl h, .inl ⟨rfl, rfl⟩⟩
    unfold g79
    rw [show pv (.eqv .sl false (.c (.s (.sl none 0 0 true 1))) (.c (.s (.sl .none 0 0 true 1)))) = some (.s (.bool true)) from rfl]
    simp only [ob_s, cnd_b, if_true, out_1]
  · by_cases h0 : bs.length = 0
    · have hb : bs = [] := List.length_eq_zero_iff.1 h0
      subst hb
      simp only [List.length_nil] at *
      refine ⟨.sl (some (h.nx, 0)) 0 0 true 1, h.new (.cells [] 5 false), ?_, (Ext.refl h).new _, .inr ⟨h.nx, 0, true, rfl, Nat.le_refl _, by simp, by rw [get_new, if_pos rfl]; rfl⟩⟩
      unfold g79
      rw [show pv (.eqv .sl false (.c (.s (.sl (some (i, o)) 0 cap true 1))) (.c (.s (.sl .none 0 0 true 1)))) = some (.s (.bool false)) from rfl]
      simp only [ob_s, cnd_b, Bool.false_eq_true, if_false]
      rw [mk_bslice (cs := []) rfl rfl]
      simp only [obh_s]
      rw [app_none (sz := 1) (src_some (cs := []) (by rw [cellsAt_ext ((Ext.refl h).new _) b]; exact c)) rfl]
      simp only [obh_s, out_1]
    · refine ⟨_, _, c79 c (by rw [len_by8]) (by omega) (by omega) b, ((Ext.refl h).new _).new _, .inr ⟨h.nx + 1, _, _, rfl, by omega, by simp, by simp [get_new]⟩⟩

/-! ### rows of cells -/

def row (pass : Int) (n k : Nat) (d : SV) : List SV := [.int .u32 pass, .int .i64 k, .int .i64 (if k + 1 = n then 2 else 1), d]

def rows (pass : Int) (n : Nat) : Nat → List SV → List SV
  | _, [] => []
  | k, d :: ds => row pass n k d ++ rows pass n (k + 1) ds

theorem rows_append (pass : Int) (n : Nat) (ds : List SV) (d : SV) : ∀ k, rows pass n k (ds ++ [d]) = rows pass n k ds ++ row pass n (k + ds.length) d := by
  induction ds with
  | nil => intro k; simp [rows]
  | cons e ds ih => intro k; simp only [List.cons_append, rows, ih, List.length_cons, List.append_assoc]; rw [show k + 1 + ds.length = k + (ds.length + 1) by omega]

theorem rows_length (pass : Int) (n : Nat) (ds : List SV) : ∀ k, (rows pass n k ds).length = 4 * ds.length := by
  induction ds with
  | nil => intro k; rfl
  | cons e ds ih => intro k; simp only [rows, List.length_append, ih, List.length_cons, row, List.length_nil]; omega

theorem rows_get (pass : Int) (n : Nat) (r : Nat) (hr : r < 4) (ds : List SV) : ∀ (k m : Nat) (d : SV), ds[m]? = some d → (rows pass n k ds)[4 * m + r]? = (row pass n (k + m) d)[r]? := by
  induction ds with
  | nil => intro k m d h; simp at h
  | cons e ds ih =>
    intro k m d h
    cases m with
    | zero =>
      simp only [List.getElem?_cons_zero, Option.some.injEq] at h
      subst h
      simp only [rows]
      rw [List.getElem?_append_left (by simp [row]; omega)]
      simp
    | succ m =>
      simp only [rows]
      rw [List.getElem?_append_right (by simp [row]; omega)]
      rw [show 4 * (m + 1) + r - (row pass n k e).length = 4 * m + r by simp [row]; omega]
      rw [ih (k + 1) m d (by simpa using h), show k + 1 + m = k + (m + 1) by omega]

theorem rows_same (pass : Int) (n n' : Nat) (ds : List SV) : ∀ k, (∀ j, k ≤ j → j < k + ds.length → (j + 1 = n ↔ j + 1 = n')) → rows pass n k ds = rows pass n' k ds := by
  induction ds with
  | nil => intro k _; rfl
  | cons e ds ih =>
    intro k h
    have h1 := h k (Nat.le_refl _) (by simp)
    simp only [rows, row]
    rw [ih (k + 1) (fun j a b => h j (by omega) (by simp; omega))]
    simp only [h1]

/-- Data of a cell. -/
def Dat (h : H) (j : Nat) (v : SV) (bs : List UInt8) : Prop := (v = .sl none 0 0 true 1 ∧ bs = []) ∨ ∃ c cap ex, v = .sl (some (c, 0)) bs.length cap ex 1 ∧ c < h.nx ∧ c ≠ j ∧ h.get c = some (.cells (by8 bs) 5 false)

/-- The cells so far. -/
def outS (j k : Nat) : AV := if k = 0 then .s (.sl none 0 0 true 1) else .s (.sl (some (j, 0)) k k false 4)

theorem src_one {h : H} {cs : List SV} {n : Nat} {t : TypeId} {x : Nat} (hg : h.get x = some (.cells cs t false)) (hn : cs.length = n) : srcCells h n (.s (.sl (some (x, 0)) 1 1 true n)) = some cs :=
  src_some (by rw [Nat.one_mul]; exact cellsAt_all hg hn)

theorem mn_i {a b : Int} : pv (.mn [.c (.s (.int .i64 a)), .c (.s (.int .i64 b))]) = some (.s (.int .i64 (if b < a then b else a))) := nr rfl

theorem c30 (w : Good fx cl) {h : H} {a0 a1 : AV} {cs0 : List SV} (h0 : AV.cs a0 = some cs0) {bs : List UInt8} (hA : Arg h a1 bs) (hL : bs.length ≤ 400) (pass : Int) :
    ∃ h' j ds, g30 fx cl a0 a1 (.s (.int .u32 pass)) h = some (.s (.sl (some (j, 0)) ds.length ds.length false 4), h') ∧ Ext h h' ∧ h.nx ≤ j ∧ j < h'.nx ∧ h'.get j = some (.cells (rows pass ds.length 0 ds) 70 false) ∧
      ds.length = max 1 ((bs.length + 47) / 48) ∧ ∀ m, m < ds.length → ∃ d, ds[m]? = some d ∧ Dat h' j d ((bs.drop (48 * m)).take 48) := by
  unfold g30
  rw [mk_box h0]
  simp only [obh_s, letJ_eq]
  have hE : Ext h (h.new (.cells cs0 27 false)) := (Ext.refl h).new _
  refine w.fix.ind (m := bs.length + 2) (P := fun r => ∃ h' j ds, r = some (.s (.sl (some (j, 0)) ds.length ds.length false 4), h') ∧ Ext h h' ∧ h.nx ≤ j ∧ j < h'.nx ∧ h'.get j = some (.cells (rows pass ds.length 0 ds) 70 false) ∧
      ds.length = max 1 ((bs.length + 47) / 48) ∧ ∀ m, m < ds.length → ∃ d, ds[m]? = some d ∧ Dat h' j d ((bs.drop (48 * m)).take 48))
    (fun m s h' => Ext h h' ∧ ∃ (k j : Nat) (ds : List SV) (rem : AV), k ≤ bs.length + 1 ∧ m = bs.length + 2 - k ∧ s = (rem, outS j k, .s (.int .i64 k)) ∧ Arg h rem (bs.drop (48 * k)) ∧ ds.length = k ∧
      (k = 0 ∨ (h.nx ≤ j ∧ j < h'.nx ∧ h'.get j = some (.cells (rows pass 0 0 ds) 70 false))) ∧ (k ≤ 1 ∨ 48 * (k - 1) < bs.length) ∧ ∀ m, m < ds.length → ∃ d, ds[m]? = some d ∧ Dat h' j d ((bs.drop (48 * m)).take 48))
    ?_ (by omega) ⟨hE, 0, 0, [], a1, by omega, rfl, rfl, by simpa using hA, rfl, .inl rfl, .inl (by omega), fun m hm => by simp at hm⟩
  rintro rec m s h' ⟨he, k, j, ds, rem, hk, rfl, rfl, hR, hds, hO, hB, hD⟩ ih
  have stop : 0 < k → bs.length ≤ 48 * k → ∃ h'' j' ds', ((F.ob (pv (.len (.sl 0) (.c (outS j k)))) fun v1 => F.ob (F.bin .sub v1 (.s (.int .i64 1))) fun v2 => F.ob (idxa (.sl 4) (outS j k) v2) fun v3 => F.ob (fld 2 v3) fun v4 => F.ob (st 1 v4 (.s (.int .i64 2)) h') fun h3 => out [outS j k] h3) : R) = some (.s (.sl (some (j', 0)) ds'.length ds'.length false 4), h'') ∧ Ext h h'' ∧ h.nx ≤ j' ∧ j' < h''.nx ∧ h''.get j' = some (.cells (rows pass ds'.length 0 ds') 70 false) ∧
      ds'.length = max 1 ((bs.length + 47) / 48) ∧ ∀ m, m < ds'.length → ∃ d, ds'[m]? = some d ∧ Dat h'' j' d ((bs.drop (48 * m)).take 48) := by
    intro h1 h2
    obtain ⟨o1, o2, o3⟩ := hO.resolve_left (by omega)
    have e : outS j k = .s (.sl (some (j, 0)) k k false 4) := by unfold outS; rw [if_neg (by omega)]
    rw [e]
    simp only [len_sl, ob_s, b_sub, out_1]
    rw [wrap_i64 (by omega) (by omega), idxa_sl (by omega) (by omega)]
    simp only [ob_s]
    rw [show fld 2 (.s (.ptr (some (j, 0 + ((k : Int) - 1).toNat * 4)))) = some (.s (.ptr (some (j, 0 + ((k : Int) - 1).toNat * 4 + 2)))) from rfl]
    simp only [ob_s]
    have hl := rows_length pass 0 ds 0
    rw [show 0 + ((k : Int) - 1).toNat * 4 + 2 = 4 * (k - 1) + 2 by omega]
    have hst : st 1 (.s (.ptr (some (j, 4 * (k - 1) + 2)))) (.s (.int .i64 2)) h' = some (h'.set j (.cells (splice (rows pass 0 0 ds) (4 * (k - 1) + 2) [.int .i64 2]) 70 false)) := by
      simp only [st, AV.cs, ob_s, F.onPtr, F.st_eq, o3]
      rw [if_pos ⟨rfl, by rw [hl, hds]; omega⟩]
      rfl
    rw [hst]
    simp only [ob_s]
    refine ⟨_, j, ds, by rw [hds], he.set o1 _, o1, by simpa using o2, ?_, by omega, fun m hm => ?_⟩
    · rw [get_set, if_pos rfl]
      congr 2
      obtain ⟨ds', d, rfl⟩ : ∃ ds' d, ds = ds' ++ [d] := by
        rcases List.eq_nil_or_concat ds with rfl | ⟨a, b, rfl⟩
        · simp at hds; omega
        · exact ⟨a, b, by simp⟩
      have hk' : ds'.length = k - 1 := by simp at hds; omega
      rw [rows_append, rows_append]
      rw [rows_same pass (ds' ++ [d]).length 0 ds' 0 (fun i _ hi => by simp at hi ⊢; omega)]
      have hl' := rows_length pass 0 ds' 0
      unfold splice
      simp only [row, Nat.zero_add, List.length_append, List.length_cons, List.length_nil]
      rw [List.take_append, List.drop_append, List.take_of_length_le (by omega), List.drop_eq_nil_of_le (by omega)]
      rw [show 4 * (k - 1) + 2 - (rows pass 0 0 ds').length = 2 by omega, show 4 * (k - 1) + 2 + (0 + 1) - (rows pass 0 0 ds').length = 3 by omega]
      simp
    · obtain ⟨d, q1, q2⟩ := hD m hm
      refine ⟨d, q1, ?_⟩
      rcases q2 with q2 | ⟨c, cap, ex, q2, q3, q4, q5⟩
      · exact .inl q2
      · exact .inr ⟨c, cap, ex, q2, by simpa using q3, q4, by rw [get_set, if_neg q4]; exact q5⟩
  have go : (k = 0 ∨ 48 * k < bs.length) → ∃ h'' j' ds', ((F.ob (pv (.len (.sl 0) (.c rem))) fun v10 =>
      F.ob (pv (.mn [.c v10, .c (.s (.int .i64 48))])) fun v11 =>
      F.ob (pv (.slc (.sl 1) (.c rem) .none (.some (.c v11)) .none)) fun v12 =>
      obh (cl 79 [v12] h') fun v13 h5 =>
      F.ob (pv (.build [(.int .u32 0), (.int .i64 0), (.int .i64 0), (.sl .none 0 0 true 1)] [(0, 1, .c (.s (.int .u32 pass))), (1, 1, .c (.s (.int .i64 k))), (2, 1, .c (.s (.int .i64 1))), (3, 1, .c v13)])) fun v14 =>
      obh (mkv (.bslice 70 4 1 [(.int .u32 0), (.int .i64 0), (.int .i64 0), (.sl .none 0 0 true 1)] [(0, 4, .c v14)]) h5) fun v15 h6 =>
      obh (G.av (.app 70 4 48 (.c (outS j k)) (.c v15)) h6) fun v16 h7 =>
      F.ob (pv (.slc (.sl 1) (.c rem) (.some (.c v11)) .none .none)) fun v17 =>
      F.ob (F.bin .add (.s (.int .i64 k)) (.s (.int .i64 1))) fun v18 =>
      rec (v17, v16, v18) h7) : R) = some (.s (.sl (some (j', 0)) ds'.length ds'.length false 4), h'') ∧ Ext h h'' ∧ h.nx ≤ j' ∧ j' < h''.nx ∧ h''.get j' = some (.cells (rows pass ds'.length 0 ds') 70 false) ∧
      ds'.length = max 1 ((bs.length + 47) / 48) ∧ ∀ m, m < ds'.length → ∃ d, ds'[m]? = some d ∧ Dat h'' j' d ((bs.drop (48 * m)).take 48) := by
    intro hgo
    have hrl : (bs.drop (48 * k)).length = bs.length - 48 * k := by simp
    rw [hR.len]
    simp only [ob_s, mn_i]
    have emn : (if (48 : Int) < ((bs.drop (48 * k)).length : Int) then (48 : Int) else ((bs.drop (48 * k)).length : Int)) = ((min 48 (bs.drop (48 * k)).length : Nat) : Int) := by
      split <;> omega
    rw [emn]
    obtain ⟨u, hu, hU⟩ := hR.hi (n := min 48 (bs.drop (48 * k)).length) (by omega)
    obtain ⟨u', hu', hU'⟩ := hR.lo (n := min 48 (bs.drop (48 * k)).length) (by omega)
    rw [hu]
    simp only [ob_s]
    obtain ⟨d, h5, hc, e5, hd⟩ := clone_arg (fx := fx) (cl := cl) (hU.ext he) (by simp; omega)
    rw [k79 w hc]
    simp only [obh_s]
    rw [show pv (.build [(.int .u32 0), (.int .i64 0), (.int .i64 0), (.sl .none 0 0 true 1)] [(0, 1, .c (.s (.int .u32 pass))), (1, 1, .c (.s (.int .i64 k))), (2, 1, .c (.s (.int .i64 1))), (3, 1, .c (.s d))]) = some (.agg (row pass 0 k d)) from rfl]
    simp only [ob_s]
    rw [mk_bslice (cs := row pass 0 k d) rfl rfl]
    simp only [obh_s]
    rw [hu']
    have hnx5 := e5.nx
    have hnx' := he.nx
    have etake : (bs.drop (48 * k)).take (min 48 (bs.drop (48 * k)).length) = (bs.drop (48 * k)).take 48 := by
      rw [List.take_eq_take_iff]; omega
    rw [etake] at hd
    have edrop : (bs.drop (48 * k)).drop (min 48 (bs.drop (48 * k)).length) = bs.drop (48 * (k + 1)) := by
      rw [List.drop_drop]
      by_cases q : 48 ≤ (bs.drop (48 * k)).length
      · rw [Nat.min_eq_left q]; congr 1
      · rw [List.drop_eq_nil_of_le (by omega), List.drop_eq_nil_of_le (by omega)]
    rw [edrop] at hU'
    have ewr : IntKind.i64.wrap ((k : Int) + 1) = ((k + 1 : Nat) : Int) := by rw [wrap_i64 (by omega) (by omega)]; rfl
    simp only [b_add, ewr, ob_s]
    -- the data of all cells, behind the append
    have data : ∀ (h7 : H) (j' : Nat), h7.nx = h5.nx + 2 → (∀ c, c < h5.nx → c ≠ j → h7.get c = h5.get c) → j' = h5.nx + 1 → (k = 0 → ∀ c, c < h5.nx → h7.get c = h5.get c) → ∀ m, m < (ds ++ [d]).length → ∃ d', (ds ++ [d])[m]? = some d' ∧ Dat h7 j' d' ((bs.drop (48 * m)).take 48) := by
      intro h7 j' hn hg hj hz m hm
      by_cases hmk : m < ds.length
      · obtain ⟨d', q1, q2⟩ := hD m hmk
        refine ⟨d', by rw [List.getElem?_append_left hmk]; exact q1, ?_⟩
        rcases q2 with q2 | ⟨c, cap, ex, q2, q3, q4, q5⟩
        · exact .inl q2
        · exact .inr ⟨c, cap, ex, q2, by omega, by omega, by rw [hg c (by omega) q4, e5.old c q3]; exact q5⟩
      · have hm' : m = ds.length := by simp at hm; omega
        refine ⟨d, by rw [hm', List.getElem?_append_right (by omega)]; simp, ?_⟩
        rw [hm', hds]
        rcases hd with q | ⟨c, cap, ex, q1, q2, q3, q4⟩
        · exact .inl q
        · refine .inr ⟨c, cap, ex, q1, by omega, by omega, ?_⟩
          by_cases hk0 : k = 0
          · rw [hz hk0 c q3]; exact q4
          · obtain ⟨o1, o2, o3⟩ := hO.resolve_left hk0
            rw [hg c q3 (by omega)]; exact q4
    have hsrc := src_one (h := h5.new (.cells (row pass 0 k d) 70 false)) (n := 4) (cs := row pass 0 k d) (t := 70) (x := h5.nx) (by rw [get_new, if_pos rfl]) rfl
    by_cases hk0 : k = 0
    · subst hk0
      have : outS j 0 = .s (.sl none 0 0 true 1) := rfl
      rw [this]
      rw [app_nil (n := 1) hsrc rfl rfl (by omega) (by decide) (by decide)]
      simp only [obh_s, ob_s]
      refine ih (bs.length + 2 - 1) _ _ (by omega) ⟨((he.trans e5).new _).new _, 1, h5.nx + 1, ds ++ [d], u', by omega, by omega, ?_, ?_, by simp [hds], .inr ⟨by omega, by simp, ?_⟩, .inl (by omega), ?_⟩
      · simp [outS]
      · exact hU'
      · rw [get_new, if_pos (by simp)]
        have : ds = [] := List.length_eq_zero_iff.1 hds
        subst this
        simp [rows]
      · exact data _ _ (by simp) (fun c h1 h2 => by rw [get_new, if_neg (by simp; omega), get_new, if_neg (by omega)]) rfl (fun _ c h1 => by rw [get_new, if_neg (by simp; omega), get_new, if_neg (by omega)])
    · obtain ⟨o1, o2, o3⟩ := hO.resolve_left hk0
      have : outS j k = .s (.sl (some (j, 0)) k k false 4) := by unfold outS; rw [if_neg hk0]
      rw [this]
      have hl := rows_length pass 0 ds 0
      rw [app_more (n := 1) (cs := rows pass 0 0 ds) hsrc rfl rfl (by omega) (by simp [most]; omega) (by simp [most]; omega) (by rw [get_new, if_neg (by omega), e5.old j o2]; exact o3) (by omega)]
      simp only [obh_s, ob_s]
      refine ih (bs.length + 2 - (k + 1)) _ _ (by omega) ⟨(((he.trans e5).new _).del (by omega)).new _, k + 1, h5.nx + 1, ds ++ [d], u', by omega, by omega, ?_, ?_, by simp [hds], .inr ⟨by omega, by simp, ?_⟩, .inr (by omega), ?_⟩
      · simp [outS]
      · exact hU'
      · rw [get_new, if_pos (by simp)]
        rw [rows_append, hds, List.drop_zero, List.take_of_length_le (by omega), Nat.zero_add]
      · exact data _ _ (by simp) (fun c h1 h2 => by rw [get_new, if_neg (by simp; omega), get_del, if_neg h2, get_new, if_neg (by omega)]) rfl (fun q => absurd q hk0)
  simp only [b_eql, ob_s]
  by_cases hk0 : k = 0
  · have e1 : decide ((k : Int) = 0) = true := by simp [hk0]
    rw [e1]
    simp only [gd_tf, ob_s, gd_n]
    rw [show pv (.pick (.c (.s (.bool true))) (.c (.s (.bool true))) (.c nought)) = some (.s (.bool true)) from rfl]
    simp only [ob_s, cnd_b, if_true]
    exact go (.inl hk0)
  · have e1 : decide ((k : Int) = 0) = false := by simp [hk0]
    rw [e1]
    simp only [gd_ff, ob_s, hR.len, b_gtr]
    rw [show ∀ b, pv (.pick (.c (.s (.bool false))) (.c (.s (.bool true))) (.c (.s (.bool b)))) = some (.s (.bool b)) from fun b => rfl]
    simp only [ob_s, cnd_b]
    by_cases hq : 48 * k < bs.length
    · have e2 : decide ((0 : Int) < ((bs.drop (48 * k)).length : Int)) = true := by simp; omega
      rw [e2, if_pos rfl]
      have := go (.inr hq)
      rw [hR.len] at this
      simp only [ob_s] at this
      exact this
    · have e2 : decide ((0 : Int) < ((bs.drop (48 * k)).length : Int)) = false := by simp; omega
      rw [e2]
      simp only [Bool.false_eq_true, if_false]
      exact stop (by omega) (by omega)

end Go.AM.T20
