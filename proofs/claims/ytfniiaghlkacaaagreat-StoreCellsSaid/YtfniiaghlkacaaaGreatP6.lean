/- The statement of cells: the law's own function. -/
import Derived.Test.YtfniiaghlkacaaaGreatP5
import Derived.Test.YtfniiaghlkacaaaGreatAm29
namespace Go.AM.T20
open Go Go.AM Go.AM.G
set_option linter.unusedSimpArgs false

variable {fx : Fx} {cl : Cl}

theorem st_ok {n i o : Nat} {v : AV} {vs cs : List SV} {t : TypeId} {h : H} (hg : h.get i = some (.cells cs t false)) (hv : AV.cs v = some vs) (h1 : vs.length = n) (h2 : o + n ≤ cs.length) : st n (.s (.ptr (some (i, o)))) v h = some (h.set i (.cells (splice cs o vs) t false)) := by
  simp only [G.st, hv, ob_s, F.onPtr, F.st_eq, hg]
  rw [if_pos ⟨h1, h2⟩]
  rfl
theorem ld_agg {n i o : Nat} {cs : List SV} {h : H} (hc : cellsAt h i o n = some cs) : ld true n (.s (.ptr (some (i, o)))) h = some (.agg cs) := by
  rw [ld_eq]; simp [readOp, hc]

/-- The default configuration. -/
def defconf : List SV := [.int .i64 4, .int .i64 1, .int .i64 1, .int .i64 3, .int .i64 2, .int .i64 2, .int .i64 32, .int .i64 1000, .int .i64 0, .int .i64 0, .int .i64 0, .int .i64 100, .int .i64 1, .int .i64 100, .int .i64 0, .int .i64 3, .int .i64 4, .int .i64 100, .int .i64 4, .int .i64 50, .int .i64 2, .int .i64 100, .int .i64 3, .int .i64 4, .int .i64 256, .int .u64 1]

theorem c31 (h : H) : ∃ h', g31 fx cl h = some (.agg defconf, h') ∧ Ext h h' := by
  unfold g31
  rw [mk_alloc]
  simp only [obh_s]
  rw [show pv (.build [(.int .i64 0), (.int .i64 0), (.int .i64 0), (.int .i64 0)] [(0, 1, .c (.s (.int .i64 1000)))]) = some (.agg [.int .i64 1000, .int .i64 0, .int .i64 0, .int .i64 0]) from rfl]
  simp only [ob_s]
  rw [show pv (.build [(.int .i64 0), (.int .i64 0), (.int .i64 0), (.int .i64 0), (.int .i64 0), (.int .i64 0), (.int .i64 0), (.int .i64 0), (.int .i64 0), (.int .i64 0), (.int .i64 0), (.int .i64 0), (.int .i64 0), (.int .i64 0), (.int .i64 0), (.int .i64 0), (.int .i64 0), (.int .i64 0), (.int .i64 0), (.int .i64 0), (.int .i64 0), (.int .i64 0), (.int .i64 0), (.int .i64 0), (.int .i64 0), (.int .u64 0)] [(0, 1, .c (.s (.int .i64 4))), (1, 1, .c (.s (.int .i64 1))), (2, 1, .c (.s (.int .i64 1))), (3, 1, .c (.s (.int .i64 3))), (4, 1, .c (.s (.int .i64 2))), (5, 1, .c (.s (.int .i64 2))), (6, 1, .c (.s (.int .i64 32))), (7, 4, .c (.agg [.int .i64 1000, .int .i64 0, .int .i64 0, .int .i64 0])), (11, 1, .c (.s (.int .i64 100))), (12, 1, .c (.s (.int .i64 1))), (13, 1, .c (.s (.int .i64 100))), (15, 1, .c (.s (.int .i64 3))), (16, 1, .c (.s (.int .i64 4))), (17, 1, .c (.s (.int .i64 100))), (18, 1, .c (.s (.int .i64 4))), (19, 1, .c (.s (.int .i64 50))), (20, 1, .c (.s (.int .i64 2))), (21, 1, .c (.s (.int .i64 100))), (22, 1, .c (.s (.int .i64 3))), (23, 1, .c (.s (.int .i64 4))), (24, 1, .c (.s (.int .i64 256))), (25, 1, .c (.s (.int .u64 1)))]) = some (.agg defconf) from rfl]
  simp only [ob_s]
  rw [st_ok (n := 26) (by rw [get_new, if_pos rfl]) (vs := defconf) rfl rfl (by simp)]
  simp only [ob_s]
  rw [ld_agg (cs := defconf) (by rw [cellsAt_eq (by rw [get_set, if_pos rfl]) (by simp [splice, defconf])]; rfl)]
  exact ⟨_, rfl, ((Ext.refl h).new _).set (Nat.le_refl _) _⟩

theorem pick_t (a b : AV) : pv (.pick (.c (.s (.bool true))) (.c a) (.c b)) = some a := nr rfl
theorem pick_f (a b : AV) : pv (.pick (.c (.s (.bool false))) (.c a) (.c b)) = some b := nr rfl
theorem fld_p (n i o : Nat) : fld n (.s (.ptr (some (i, o)))) = some (.s (.ptr (some (i, o + n)))) := nr rfl
theorem b_stradd {a b : List UInt8} (h : a.length + b.length ≤ 1099511627776) : F.bin .add (.s (.str a)) (.s (.str b)) = some (.s (.str (a ++ b))) := by
  simp only [F.bin_eq, bin]; rw [if_pos (by simpa using h)]
theorem b_streql (a b : List UInt8) : F.bin .eql (.s (.str a)) (.s (.str b)) = some (.s (.bool (a == b))) := by simp only [F.bin_eq, bin]
theorem b_quo (k : IntKind) {a b : Int} (h : b ≠ 0) : F.bin .quo (.s (.int k a)) (.s (.int k b)) = some (.s (.int k (k.wrap (a.tdiv b)))) := by simp [F.bin_eq, bin, h]
theorem mx_i {a b : Int} : pv (.mx [.c (.s (.int .i64 a)), .c (.s (.int .i64 b))]) = some (.s (.int .i64 (if b > a then b else a))) := nr rfl

theorem bytesOf_by8 (bs : List UInt8) : bytesOf (by8 bs) = some bs := by
  induction bs with
  | nil => rfl
  | cons b l ih =>
    simp only [by8, List.map_cons, bytesOf] at *
    rw [ih]
    simp

theorem b2s_some {h : H} {i o len cap : Nat} {ex : Bool} {bs : List UInt8} (hc : cellsAt h i o len = some (by8 bs)) : rv (.b2s (.c (.s (.sl (some (i, o)) len cap ex 1)))) h = some (.s (.str bs)) := by
  simp [rv, readOp, evc, hc, bytesOf_by8]

theorem Arg.b2s {h : H} {v : AV} {bs : List UInt8} (a : Arg h v bs) : rv (.b2s (.c v)) h = some (.s (.str bs)) := by
  rcases a with ⟨rfl, rfl⟩ | ⟨i, o, cap, rfl, b, c, d⟩
  · rfl
  · exact b2s_some c

theorem Dat.len {h : H} {j : Nat} {d : SV} {bs : List UInt8} (a : Dat h j d bs) : pv (.len (.sl 0) (.c (.s d))) = some (.s (.int .i64 bs.length)) := by
  rcases a with ⟨rfl, rfl⟩ | ⟨c, cap, ex, rfl, _⟩ <;> rfl

theorem Dat.b2s {h : H} {j : Nat} {d : SV} {bs : List UInt8} (a : Dat h j d bs) : rv (.b2s (.c (.s d))) h = some (.s (.str bs)) := by
  rcases a with ⟨rfl, rfl⟩ | ⟨c, cap, ex, rfl, _, _, hg⟩
  · rfl
  · exact b2s_some (cellsAt_all hg (len_by8 bs))

theorem idx_row {jj n j : Nat} (hj : j < n) : idxa (.sl 4) (.s (.sl (some (jj, 0)) n n false 4)) (.s (.int .i64 (j : Int))) = some (.s (.ptr (some (jj, 4 * j)))) := by
  rw [idxa_sl (by omega) (by omega)]
  rw [show 0 + (j : Int).toNat * 4 = 4 * j by omega]

theorem ld_row {h : H} {pass : Int} {jj n j r : Nat} {ds : List SV} {d v : SV} (hg : h.get jj = some (.cells (rows pass n 0 ds) 70 false)) (hd : ds[j]? = some d) (hr : r < 4) (hv : (row pass n j d)[r]? = some v) : ld false 1 (.s (.ptr (some (jj, 4 * j + r)))) h = some (.s v) := by
  have hj : j < ds.length := (List.getElem?_eq_some_iff.1 hd).1
  have hl := rows_length pass n ds 0
  refine ld_1 ?_
  rw [cellsAt_eq hg (by omega), F.take1_drop, rows_get pass n r hr ds 0 j d hd, Nat.zero_add, hv]

theorem c5 (w : Good fx cl) (k29 : ∀ h, cl 29 [] h = some (.s (.bool true), h)) (k32 : ∀ h, cl 32 [.agg defconf] h = some (.s (.bool true), h)) {h : H} {a0 : AV} {bs : List UInt8} (hA : Arg h a0 bs) (pass : Int) :
    ∃ h', g5 fx cl a0 (.s (.int .u32 pass)) h = some (.s (.bool true), h') := by
  unfold g5
  rw [hA.len]
  simp only [ob_s, b_gtr, cnd_b]
  by_cases hL : 400 < bs.length
  · have e : decide ((400 : Int) < (bs.length : Int)) = true := by simp; omega
    rw [e, if_pos rfl, k29]
    exact ⟨h, rfl⟩
  have e : decide ((400 : Int) < (bs.length : Int)) = false := by simp; omega
  rw [e]
  simp only [Bool.false_eq_true, if_false]
  obtain ⟨h2, q1, q2⟩ := c31 (fx := fx) (cl := cl) h
  rw [k31 w q1]
  simp only [obh_s]
  obtain ⟨h3, jj, ds, q3, q4, q5, q6, q7, q8, q9⟩ := c30 w (a0 := .agg defconf) (cs0 := defconf) rfl (hA.ext q2) (by omega) pass
  rw [k30 w q3]
  simp only [obh_s, letJ_eq]
  have hA3 : Arg h3 a0 bs := hA.ext (q2.trans q4)
  refine w.fix.ind (m := ds.length) (P := fun r => ∃ h', r = some (.s (.bool true), h'))
    (fun m s h' => h' = h3 ∧ ∃ j : Nat, j ≤ ds.length ∧ m = ds.length - j ∧ s = (.s (.str (bs.take (48 * j))), .s (.int .i64 j))) ?_ (by omega) ⟨rfl, 0, by omega, rfl, by simp⟩
  rintro rec m s h' ⟨rfl, j, hj, rfl, rfl⟩ ih
  simp only [len_sl, ob_s, b_lss, cnd_b]
  by_cases hjn : j = ds.length
  · have e1 : decide ((j : Int) < (ds.length : Int)) = false := by simp; omega
    rw [e1]
    simp only [Bool.false_eq_true, if_false, k29, obh_s, gd_tt, ob_s, hA3.b2s, hA3.len, b_streql]
    have e2 : (bs.take (48 * j) == bs) = true := by rw [List.take_of_length_le (by omega)]; simp
    simp only [e2, pick_t, ob_s, gd_tt, len_sl, hA3.len, b_add]
    rw [wrap_i64 (by omega) (by omega), b_quo _ (by decide)]
    have e3 : ((bs.length : Int) + 47).tdiv 48 = (((bs.length + 47) / 48 : Nat) : Int) := by
      rw [Int.tdiv_eq_ediv_of_nonneg (by omega)]; omega
    rw [e3, wrap_i64 (by omega) (by omega)]
    simp only [ob_s, mx_i, b_eql]
    have e4 : decide ((ds.length : Int) = if ((((bs.length + 47) / 48 : Nat) : Int)) > 1 then (((bs.length + 47) / 48 : Nat) : Int) else 1) = true := by
      simp only [decide_eq_true_eq]; split <;> omega
    simp only [e4, pick_t, ob_s, gd_tt]
    obtain ⟨h4, r1, r2⟩ := c31 (fx := fx) (cl := cl) h'
    rw [k31 w r1]
    simp only [obh_s, k32, pick_t, ob_s, out_1]
    exact ⟨_, rfl⟩
  · have hlt : j < ds.length := by omega
    have e1 : decide ((j : Int) < (ds.length : Int)) = true := by simp; omega
    rw [e1, if_pos rfl]
    obtain ⟨d, d1, d2⟩ := q9 j hlt
    have hch : ((bs.drop (48 * j)).take 48).length = min 48 (bs.length - 48 * j) := by simp
    have l1 := ld_row (r := 1) q7 d1 (by omega) rfl
    have l0 := ld_row (r := 0) q7 d1 (by omega) rfl
    have l2 := ld_row (r := 2) q7 d1 (by omega) rfl
    have l3 := ld_row (r := 3) q7 d1 (by omega) rfl
    have ix := idx_row (jj := jj) hlt
    simp only [b_sub, ob_s, b_eql, ix, fld_p, l0, l1, l2, l3, cnd_b]
    rw [wrap_i64 (n := (ds.length : Int) - 1) (by omega) (by omega)]
    have fin : ∀ kk : Int, kk = (if j + 1 = ds.length then 2 else 1) → ∃ h'', ((F.ob (F.bin .neq (.s (.int .i64 (j : Int))) (.s (.int .i64 (j : Int)))) fun v31 =>
  F.ob (gd v31 false (some (.s (.sl (some (jj, 0)) ds.length ds.length false 4))) (some nought)) fun v32 =>
  F.ob (gd v31 false (some (.s (.int .i64 (j : Int)))) (some nought)) fun v33 =>
  F.ob (gd v31 false (idxa (.sl 4) v32 v33) (some nought)) fun v34 =>
  F.ob (gd v31 false (fld 2 v34) (some nought)) fun v35 =>
  F.ob (gd v31 false (ld false 1 v35 h') (some nought)) fun v36 =>
  F.ob (gd v31 false (some (.s (.int .i64 kk))) (some nought)) fun v37 =>
  F.ob (gd v31 false (F.bin .neq v36 v37) (some nought)) fun v38 =>
  F.ob (pv (.pick (.c v31) (.c (.s (.bool true))) (.c v38))) fun v39 =>
  F.ob (gd v39 false (some (.s (.sl (some (jj, 0)) ds.length ds.length false 4))) (some nought)) fun v40 =>
  F.ob (gd v39 false (some (.s (.int .i64 (j : Int)))) (some nought)) fun v41 =>
  F.ob (gd v39 false (idxa (.sl 4) v40 v41) (some nought)) fun v42 =>
  F.ob (gd v39 false (fld 0 v42) (some nought)) fun v43 =>
  F.ob (gd v39 false (ld false 1 v43 h') (some nought)) fun v44 =>
  F.ob (gd v39 false (some (.s (.int .u32 pass))) (some nought)) fun v45 =>
  F.ob (gd v39 false (F.bin .neq v44 v45) (some nought)) fun v46 =>
  F.ob (pv (.pick (.c v39) (.c (.s (.bool true))) (.c v46))) fun v47 =>
  F.ob (gd v47 false (some (.s (.sl (some (jj, 0)) ds.length ds.length false 4))) (some nought)) fun v48 =>
  F.ob (gd v47 false (some (.s (.int .i64 (j : Int)))) (some nought)) fun v49 =>
  F.ob (gd v47 false (idxa (.sl 4) v48 v49) (some nought)) fun v50 =>
  F.ob (gd v47 false (fld 3 v50) (some nought)) fun v51 =>
  F.ob (gd v47 false (ld false 1 v51 h') (some nought)) fun v52 =>
  F.ob (gd v47 false (pv (.len (.sl 0) (.c v52))) (some nought)) fun v53 =>
  F.ob (gd v47 false (F.bin .gtr v53 (.s (.int .i64 48))) (some nought)) fun v54 =>
  F.ob (pv (.pick (.c v47) (.c (.s (.bool true))) (.c v54))) fun v55 =>
  F.ob (gd v55 false (some (.s (.int .i64 (j : Int)))) (some nought)) fun v56 =>
  F.ob (gd v55 false (some (.s (.sl (some (jj, 0)) ds.length ds.length false 4))) (some nought)) fun v57 =>
  F.ob (gd v55 false (pv (.len (.sl 0) (.c v57))) (some nought)) fun v58 =>
  F.ob (gd v55 false (F.bin .sub v58 (.s (.int .i64 1))) (some nought)) fun v59 =>
  F.ob (gd v55 false (F.bin .lss v56 v59) (some nought)) fun v60 =>
  F.ob (gd v55 false (some v60) (some nought)) fun v61 =>
  F.ob (gd v61 true (some (.s (.sl (some (jj, 0)) ds.length ds.length false 4))) (some nought)) fun v62 =>
  F.ob (gd v61 true (some (.s (.int .i64 (j : Int)))) (some nought)) fun v63 =>
  F.ob (gd v61 true (idxa (.sl 4) v62 v63) (some nought)) fun v64 =>
  F.ob (gd v61 true (fld 3 v64) (some nought)) fun v65 =>
  F.ob (gd v61 true (ld false 1 v65 h') (some nought)) fun v66 =>
  F.ob (gd v61 true (pv (.len (.sl 0) (.c v66))) (some nought)) fun v67 =>
  F.ob (gd v61 true (F.bin .neq v67 (.s (.int .i64 48))) (some nought)) fun v68 =>
  F.ob (gd v55 false (pv (.pick (.c v61) (.c v68) (.c (.s (.bool false))))) (some nought)) fun v69 =>
  F.ob (pv (.pick (.c v55) (.c (.s (.bool true))) (.c v69))) fun v70 =>
  cnd v70 (
  out [(.s (.bool false))] h') (
  F.ob (rv (.b2s (.c (.s d))) h') fun v74 =>
  F.ob (F.bin .add (.s (.str (bs.take (48 * j)))) v74) fun v75 =>
  F.ob (F.bin .add (.s (.int .i64 (j : Int))) (.s (.int .i64 1))) fun v76 =>
  rec (v75, v76) h')) : R) = some (.s (.bool true), h'') := by
      rintro kk rfl
      have f3 : decide ((48 : Int) < (((bs.drop (48 * j)).take 48).length : Int)) = false := by simp only [hch, decide_eq_false_iff_not]; omega
      simp only [b_neq, decide_true, Bool.not_true, ob_s, gd_ff, ix, fld_p, l2, Nat.zero_add, pick_f, l0, l3, d2.len, b_gtr, f3, len_sl, b_sub, b_lss]
      rw [wrap_i64 (n := (ds.length : Int) - 1) (by omega) (by omega)]
      have last : ∃ h'', ((F.ob (rv (.b2s (.c (.s d))) h') fun v74 =>
  F.ob (F.bin .add (.s (.str (bs.take (48 * j)))) v74) fun v75 =>
  F.ob (F.bin .add (.s (.int .i64 (j : Int))) (.s (.int .i64 1))) fun v76 =>
  rec (v75, v76) h') : R) = some (.s (.bool true), h'') := by
        rw [d2.b2s]
        simp only [ob_s]
        rw [b_stradd (by simp; omega)]
        simp only [ob_s, b_add]
        rw [wrap_i64 (by omega) (by omega)]
        refine ih (ds.length - (j + 1)) _ _ (by omega) ⟨rfl, j + 1, by omega, rfl, ?_⟩
        have : bs.take (48 * j) ++ (bs.drop (48 * j)).take 48 = bs.take (48 * (j + 1)) := by
          rw [Nat.mul_add, Nat.mul_one, List.take_add]
        rw [this]; rfl
      by_cases hq : j + 1 < ds.length
      · have f4 : decide ((j : Int) < (ds.length : Int) - 1) = true := by simp; omega
        have f5 : (!decide ((((bs.drop (48 * j)).take 48).length : Int) = 48)) = false := by
          simp only [hch, Bool.not_eq_false', decide_eq_true_eq]; omega
        simp only [f4, gd_tt, ob_s, ix, fld_p, l3, d2.len, b_neq, f5, pick_t, gd_ff, pick_f, cnd_b, Bool.false_eq_true, if_false]
        exact last
      · have f4 : decide ((j : Int) < (ds.length : Int) - 1) = false := by simp; omega
        simp only [f4, gd_ft, ob_s, pick_f, gd_ff, cnd_b, Bool.false_eq_true, if_false]
        exact last
    by_cases hq : j + 1 = ds.length
    · have f4 : decide ((j : Int) = (ds.length : Int) - 1) = true := by simp; omega
      rw [f4, if_pos rfl]
      exact fin 2 (by rw [if_pos hq])
    · have f4 : decide ((j : Int) = (ds.length : Int) - 1) = false := by simp; omega
      rw [f4]
      simp only [Bool.false_eq_true, if_false]
      exact fin 1 (by rw [if_neg hq])

theorem cellsAt_heap8 {bs : List UInt8} {len : Nat} (h : len ≤ bs.length) : cellsAt (heap8 bs) 0 0 len = some (by8 (bs.take len)) := by
  rw [cellsAt_eq (t := 5) (ro := true) (by rw [heap8_get, if_pos rfl]) (by simpa using h)]
  simp [by8, List.map_take]

end Go.AM.T20
