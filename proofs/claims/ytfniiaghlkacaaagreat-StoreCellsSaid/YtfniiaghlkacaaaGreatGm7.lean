/- Laws of the heap and of slices. -/
import Derived.Test.YtfniiaghlkacaaaGreatGm6
namespace Go.AM.G
open Go Go.AM
set_option linter.unusedSimpArgs false

theorem get_new (h : H) (o : AO) (i : Nat) : (h.new o).get i = if i = h.nx then some o else h.get i := by
  simp only [H.new, H.get, Tr.get_put]
theorem get_set (h : H) (j : Nat) (o : AO) (i : Nat) : (h.set j o).get i = if i = j then some o else h.get i := by
  simp only [H.set, H.get, Tr.get_put]
theorem get_del (h : H) (j i : Nat) : (h.del j).get i = if i = j then none else h.get i := by
  simp only [H.del, H.get, Tr.get_put]
@[simp] theorem nx_new (h : H) (o : AO) : (h.new o).nx = h.nx + 1 := rfl
@[simp] theorem nx_set (h : H) (j : Nat) (o : AO) : (h.set j o).nx = h.nx := rfl
@[simp] theorem nx_del (h : H) (j : Nat) : (h.del j).nx = h.nx := rfl

/-- All that was there is as it was. -/
structure Ext (h h' : H) : Prop where
  nx : h.nx ≤ h'.nx
  old : ∀ i, i < h.nx → h'.get i = h.get i

theorem Ext.refl (h : H) : Ext h h := ⟨Nat.le_refl _, fun _ _ => rfl⟩
theorem Ext.trans {h h1 h2 : H} (a : Ext h h1) (b : Ext h1 h2) : Ext h h2 := ⟨Nat.le_trans a.nx b.nx, fun i hi => (b.old i (by have := a.nx; omega)).trans (a.old i hi)⟩
theorem Ext.new {h h1 : H} (a : Ext h h1) (o : AO) : Ext h (h1.new o) := ⟨by have := a.nx; simp; omega, fun i hi => by have := a.nx; rw [get_new, if_neg (by omega)]; exact a.old i hi⟩
theorem Ext.set {h h1 : H} (a : Ext h h1) {j : Nat} (hj : h.nx ≤ j) (o : AO) : Ext h (h1.set j o) := ⟨a.nx, fun i hi => by rw [get_set, if_neg (by omega)]; exact a.old i hi⟩
theorem Ext.del {h h1 : H} (a : Ext h h1) {j : Nat} (hj : h.nx ≤ j) : Ext h (h1.del j) := ⟨a.nx, fun i hi => by rw [get_del, if_neg (by omega)]; exact a.old i hi⟩

theorem mk_box {t : TypeId} {v : AV} {cs : List SV} {h : H} (hv : AV.cs v = some cs) : mkv (.box t (.c v)) h = some (.s (.ptr (some (h.nx, 0))), h.new (.cells cs t false)) := by
  simp [mkv, makeOp, evc, hv, F.hnew_eq]
theorem mk_alloc {t : TypeId} {z : List SV} {h : H} : mkv (.alloc t z) h = some (.s (.ptr (some (h.nx, 0))), h.new (.cells z t false)) := by
  simp [mkv, makeOp, F.hnew_eq]
theorem mk_bslice {t : TypeId} {sz len : Nat} {z : List SV} {ps : List (Nat × Nat × X)} {cs : List SV} {h : H} (hf : fill .nil z ps = some cs) (hl : cs.length = len * sz) :
    mkv (.bslice t sz len z ps) h = some (.s (.sl (some (h.nx, 0)) len len true sz), h.new (.cells cs t false)) := by
  simp [mkv, makeOp, hf, hl, F.hnew_eq]

theorem src_some {h : H} {sz i o len cap : Nat} {ex : Bool} {cs : List SV} (hc : cellsAt h i o (len * sz) = some cs) : srcCells h sz (.s (.sl (some (i, o)) len cap ex sz)) = some cs := by simp [srcCells, hc]

theorem cellsAt_eq {h : H} {i o n : Nat} {cs : List SV} {t : TypeId} {ro : Bool} (hg : h.get i = some (.cells cs t ro)) (hl : o + n ≤ cs.length) : cellsAt h i o n = some ((cs.drop o).take n) := by
  simp [cellsAt, hg, hl]

theorem cellsAt_all {h : H} {i n : Nat} {cs : List SV} {t : TypeId} {ro : Bool} (hg : h.get i = some (.cells cs t ro)) (hl : cs.length = n) : cellsAt h i 0 n = some cs := by
  rw [cellsAt_eq hg (by omega)]; simp [← hl]

theorem cellsAt_ext {h h' : H} {i o n : Nat} (e : Ext h h') (hi : i < h.nx) : cellsAt h' i o n = cellsAt h i o n := by
  simp only [cellsAt, e.old i hi]

theorem app_nil {t : TypeId} {sz bytes n : Nat} {x : AV} {xs : List SV} {h : H} {z : Nat} (h1 : srcCells h sz x = some xs) (h2 : lenOf x = some n) (h3 : xs.length = n * sz) (h4 : n ≠ 0) (h5 : (n + 512) * bytes ≤ most) (h6 : n ≤ most) :
    av (.app t sz bytes (.c (.s (.sl none 0 0 true z))) (.c x)) h = some (.s (.sl (some (h.nx, 0)) n n false sz), h.new (.cells xs t false)) := by
  simp only [av, actOp, evc, h1, h2, appendTo]
  simp [h3, h4, Nat.not_lt.2 h5, Nat.not_lt.2 h6]

theorem app_more {t : TypeId} {sz bytes n len i o : Nat} {x : AV} {xs cs : List SV} {h : H} (h1 : srcCells h sz x = some xs) (h2 : lenOf x = some n) (h3 : xs.length = n * sz) (h4 : n ≠ 0) (h5 : (len + n + 512) * bytes ≤ most) (h6 : len + n ≤ most)
    (hg : h.get i = some (.cells cs t false)) (hl : o + len * sz ≤ cs.length) :
    av (.app t sz bytes (.c (.s (.sl (some (i, o)) len len false sz))) (.c x)) h = some (.s (.sl (some (h.nx, 0)) (len + n) (len + n) false sz), (h.del i).new (.cells ((cs.drop o).take (len * sz) ++ xs) t false)) := by
  have h7 : ¬ (len + n ≤ len) := by omega
  simp only [av, actOp, evc, h1, h2, appendTo]
  simp only [if_neg h7]
  simp [h3, h4, Nat.not_lt.2 h5, Nat.not_lt.2 h6, hg, hl]

/-- An append to a slice whose capacity is known to be full. -/
theorem app_full {t : TypeId} {sz bytes n len i o : Nat} {x : AV} {xs cs : List SV} {h : H} {t' : TypeId} {ro : Bool} (h1 : srcCells h sz x = some xs) (h2 : lenOf x = some n) (h3 : xs.length = n * sz) (h4 : n ≠ 0) (h5 : (len + n + 512) * bytes ≤ most) (h6 : len + n ≤ most)
    (hg : h.get i = some (.cells cs t' ro)) (hl : o + len * sz ≤ cs.length) :
    av (.app t sz bytes (.c (.s (.sl (some (i, o)) len len true sz))) (.c x)) h = some (.s (.sl (some (h.nx, 0)) (len + n) (len + n) false sz), h.new (.cells ((cs.drop o).take (len * sz) ++ xs) t false)) := by
  have h7 : ¬ (len + n ≤ len) := by omega
  simp only [av, actOp, evc, h1, h2, appendTo]
  simp only [if_neg h7]
  simp [h3, h4, Nat.not_lt.2 h5, Nat.not_lt.2 h6, hg, hl]

theorem app_none {t : TypeId} {sz bytes : Nat} {a : Option (Nat × Nat)} {len cap : Nat} {ex : Bool} {x : AV} {h : H} (h1 : srcCells h sz x = some []) (h2 : lenOf x = some 0) :
    av (.app t sz bytes (.c (.s (.sl a len cap ex sz))) (.c x)) h = some (.s (.sl a len cap ex sz), h) := by
  simp only [av, actOp, evc, h1, h2, appendTo]
  simp

end Go.AM.G
