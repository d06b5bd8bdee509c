/- Operations that make memory. -/
import Derived.Test.YtfniiaghlkacaaaGreatAm10
import Derived.Lib.ConvBytes
namespace Go.AM
open Go
set_option linter.unusedSimpArgs false

theorem flat_get {α : Type} (l : List α) : ∀ (n j : Nat), ((List.replicate n l).flatten)[j]? = if j < n * l.length then l[j % l.length]? else none
  | 0, j => by simp
  | n + 1, j => by
    rw [List.replicate_succ, List.flatten_cons, List.getElem?_append, flat_get l n]
    by_cases h : j < l.length
    · rw [if_pos h, if_pos (by rw [Nat.succ_mul]; omega), Nat.mod_eq_of_lt h]
    · rw [if_neg h]
      by_cases h2 : j < (n + 1) * l.length
      · rw [if_pos h2, if_pos (by rw [Nat.succ_mul] at h2; omega), ← Nat.mod_eq_sub_mod (by omega)]
      · rw [if_neg h2, if_neg (by rw [Nat.succ_mul] at h2; omega)]

section
variable {P : Program} {ρ : Ren} {e : Env} {a : Act} {h : H} {w : World}

theorem rep_rel {z : List SV} {zc : Array Value} (hz : All2 (SRel ρ) z zc.toList) (n k : Nat) (hk : k = z.length) : All2 (SRel ρ) (rep n z) ((Array.range (n * k)).map (fun i => zc[i % zc.size]!)).toList := by
  have hlen : zc.size = k := by have := hz.length; simp at this; omega
  have : ((Array.range (n * k)).map (fun i => zc[i % zc.size]!)).toList = (List.replicate n zc.toList).flatten := by
    apply List.ext_getElem?
    intro j
    rw [flat_get]
    simp only [Array.toList_map, List.getElem?_map, Array.toList_range, Array.length_toList, hlen]
    by_cases hj : j < n * k
    · rw [if_pos hj]
      have h0 : 0 < k := by
        rcases Nat.eq_zero_or_pos k with h | h
        · subst h; simp at hj
        · exact h
      have hm := Nat.mod_lt j h0
      rw [List.getElem?_range hj]
      simp [hlen, hm]
    · rw [if_neg hj, List.getElem?_eq_none (by simpa using hj)]
      rfl
  rw [this]
  exact All2.flatten (All2.replicate hz n)

/-- What was made: a new block; nothing else has changed. -/
structure Made (ρ : Ren) (w : World) (ob : AO) (f : Nat → AV) (x : Value) (w' : World) (L : Loc) : Prop where
  blk : L.b = w.heap.size
  size : w'.heap.size = w.heap.size + 1
  kept : ∀ b, b < w.heap.size → w'.heap[b]? = w.heap[b]?
  os : w'.os = w.os
  out : w'.output = w.output
  tape : w'.tape = w.tape
  obj : ORel ρ L w' ob
  val : ∀ (ρ' : Ren) (i : Nat), ρ' i = some L → VRel ρ' (f i) x

def pushed (w : World) (o : Obj) : World := { w with heap := w.heap.push o }

theorem made_of {o : Obj} {ob : AO} {f : Nat → AV} {x : Value} {s n : Nat} (ho : ORel ρ ⟨w.heap.size, s, n⟩ (pushed w o) ob) (hv : ∀ (ρ' : Ren) (i : Nat), ρ' i = some ⟨w.heap.size, s, n⟩ → VRel ρ' (f i) x) :
    Made ρ w ob f x (pushed w o) ⟨w.heap.size, s, n⟩ :=
  ⟨rfl, by simp [pushed], fun b hb => by show (w.heap.push o)[b]? = _; rw [Array.getElem?_push, if_neg (Nat.ne_of_lt hb)], rfl, rfl, rfl, ho, hv⟩

theorem pushed_at (w : World) (o : Obj) : (pushed w o).heap[w.heap.size]? = some o := by show (w.heap.push o)[w.heap.size]? = _; simp

theorem cells_made {cs : List SV} {c : Array Value} {t t' : TypeId} (hc : All2 (SRel ρ) cs c.toList) : ORel ρ ⟨w.heap.size, 0, c.size⟩ (pushed w (.cells c t)) (.cells cs t' false) := by
  have hl := hc.length
  simp only [Array.length_toList] at hl
  refine ⟨c, t, (0, 0), pushed_at w _, rfl, by simp; omega, fun j v hv => ?_, fun _ o _ => by simp⟩
  obtain ⟨y, hy, q⟩ := hc.get j v hv
  exact ⟨y, by simpa using hy, q⟩

/-- What the code of an operation that makes memory comes to. -/
def MakesOp (P : Program) (ρ : Ren) (a : Act) (g : Go.Op) (w : World) (ob : AO) (f : Nat → AV) : Prop :=
  ∀ (dst : Option Tmp) (ty : TypeId) (pos : String) (aft : Array Edge) (gd : Option (Nat × Bool)), ∃ x w' L, (execOp a.eval ⟨dst, g, ty, pos, aft, gd⟩).run P w = .ok (.value x) w' ∧ Made ρ w ob f x w' L

theorem sim_alloc {t : TypeId} {op : Op} (hc : cOp P (.alloc t) = some op) {ob : AO} {f : Nat → AV} (hv : makeOp e op = some (ob, f)) : MakesOp P ρ a (.alloc t) w ob f := by
  simp only [cOp] at hc
  split at hc
  case h_2 => cases hc
  rename_i z hz
  cases hc
  simp only [makeOp, Option.some.injEq, Prod.mk.injEq] at hv
  obtain ⟨rfl, rfl⟩ := hv
  obtain ⟨zx, hzr, hzc, _⟩ := zero_run (ρ := ρ) hz w
  intro dst ty pos aft gd
  refine ⟨.pointer (some ⟨w.heap.size, 0, none⟩), pushed w (.cells zx.cells t), ⟨w.heap.size, 0, zx.cells.size⟩, ?_, made_of (cells_made hzc) fun ρ' i hi => ⟨_, hi, rfl⟩⟩
  simp only [execOp, Sem.run_bind, Instr.alloc, hzr, Result.andThen_ok, newVar, newRow, run_newObj, Sem.run_pure]
  rfl

theorem sim_box (r : EnvRel ρ e a.tmps) {t : TypeId} {x : Operand} {op : Op} (hc : cOp P (.box t x) = some op) {ob : AO} {f : Nat → AV} (hv : makeOp e op = some (ob, f)) : MakesOp P ρ a (.box t x) w ob f := by
  simp only [cOp, Option.map_eq_some_iff] at hc
  obtain ⟨x', hx, rfl⟩ := hc
  simp only [makeOp] at hv
  split at hv
  case h_2 => cases hv
  rename_i cs hcs
  simp only [Option.some.injEq, Prod.mk.injEq] at hv
  obtain ⟨rfl, rfl⟩ := hv
  simp only [Option.bind_eq_some_iff] at hcs
  obtain ⟨u, hu, hcs⟩ := hcs
  have hr := VRel.cs (ev_sim r hx hu) hcs
  intro dst ty pos aft gd
  refine ⟨.pointer (some ⟨w.heap.size, 0, none⟩), pushed w (.cells (a.eval x).cells t), ⟨w.heap.size, 0, (a.eval x).cells.size⟩, ?_, made_of (cells_made hr) fun ρ' i hi => ⟨_, hi, rfl⟩⟩
  simp only [execOp, Sem.run_bind, Instr.box, Result.andThen_ok, newVar, newRow, run_newObj, Sem.run_pure]
  rfl

theorem sim_bslice (r : EnvRel ρ e a.tmps) {t : TypeId} {len : Nat} {ps : Array (Nat × Operand)} {op : Op} (hc : cOp P (.buildSlice t len ps) = some op) {ob : AO} {f : Nat → AV} (hv : makeOp e op = some (ob, f)) :
    MakesOp P ρ a (.buildSlice t len ps) w ob f := by
  simp only [cOp] at hc
  split at hc
  case h_2 => cases hc
  rename_i el hu
  split at hc
  case h_2 => cases hc
  rename_i n z hn hz
  split at hc
  case isFalse => cases hc
  rename_i hb
  simp only [Option.map_eq_some_iff] at hc
  obtain ⟨ps', hp, rfl⟩ := hc
  simp only [makeOp] at hv
  split at hv
  case h_2 => cases hv
  rename_i cs hcs
  split at hv
  case isFalse => cases hv
  simp only [Option.some.injEq, Prod.mk.injEq] at hv
  obtain ⟨rfl, rfl⟩ := hv
  obtain ⟨zx, hzr, hzc, _⟩ := zero_run (ρ := ρ) hz w
  have key : ∀ (zc : Array Value), (if len * n = 0 then zc = #[] else zc = zx.cells) → ∃ ys, Instr.fill (fun i => some (i * n, n)) ((Array.range (len * n)).map (fun i => zc[i % zc.size]!)) (ps.toList.map fun p => (p.1, a.eval p.2)) = some ys ∧ All2 (SRel ρ) cs ys.toList := by
    intro zc hzc'
    split at hzc'
    · rename_i h0
      refine fill_sim r hp hcs ?_
      have : rep len z = [] := by
        apply List.length_eq_zero_iff.1
        simp [rep, hb.2, h0]
      rw [this, h0]
      simpa using All2.nil
    · subst hzc'
      exact fill_sim r hp hcs (rep_rel hzc len n hb.2.symm)
  intro dst ty pos aft gd
  by_cases h0 : len * n = 0
  · obtain ⟨ys, hy, q⟩ := key #[] (by rw [if_pos h0])
    refine ⟨.slice (some ⟨w.heap.size, 0, none⟩) len len, pushed w (.cells ys el), ⟨w.heap.size, 0, ys.size⟩, ?_, made_of (cells_made q) fun ρ' i hi => ⟨_, 0, len, hi, rfl, Nat.le_refl _, Nat.le_refl _, fun _ => rfl, .inr ⟨rfl, .inl rfl⟩⟩⟩
    simp only [execOp, Sem.run_bind, Instr.buildSlice, run_underlying hu, size_run hn, Result.andThen_ok]
    rw [if_neg (by omega)]
    simp only [h0, if_true, Sem.run_pure, pure_bind, Array.toList_map, Sem.run_bind, Result.andThen_ok]
    rw [h0] at hy
    rw [hy]
    simp only [newRow, Sem.run_bind, run_newObj, Result.andThen_ok, Sem.run_pure]
    rfl
  · obtain ⟨ys, hy, q⟩ := key zx.cells (by rw [if_neg h0])
    refine ⟨.slice (some ⟨w.heap.size, 0, none⟩) len len, pushed w (.cells ys el), ⟨w.heap.size, 0, ys.size⟩, ?_, made_of (cells_made q) fun ρ' i hi => ⟨_, 0, len, hi, rfl, Nat.le_refl _, Nat.le_refl _, fun _ => rfl, .inr ⟨rfl, .inl rfl⟩⟩⟩
    simp only [execOp, Sem.run_bind, Instr.buildSlice, run_underlying hu, size_run hn, Result.andThen_ok]
    rw [if_neg (by omega)]
    simp only [h0, if_false, Sem.run_bind, Sem.run_pure, pure_bind, hzr, Result.andThen_ok, Array.toList_map]
    rw [hy]
    simp only [newRow, Sem.run_bind, run_newObj, Result.andThen_ok, Sem.run_pure]
    rfl

theorem sim_mkslice (r : EnvRel ρ e a.tmps) {t : TypeId} {l c : Operand} {op : Op} (hc : cOp P (.makeSlice t l c) = some op) {ob : AO} {f : Nat → AV} (hv : makeOp e op = some (ob, f)) : MakesOp P ρ a (.makeSlice t l c) w ob f := by
  simp only [cOp] at hc
  split at hc
  case h_2 => cases hc
  rename_i el hu
  split at hc
  case h_2 => cases hc
  rename_i z i l' c' hz hi hl hc'
  split at hc
  case isFalse => cases hc
  rename_i hsz
  cases hc
  simp only [makeOp] at hv
  split at hv
  case h_2 => cases hv
  rename_i n m hn hm
  split at hv
  case isFalse => cases hv
  rename_i hb
  simp only [Option.some.injEq, Prod.mk.injEq] at hv
  obtain ⟨rfl, rfl⟩ := hv
  obtain ⟨zx, hzr, hzc, _⟩ := zero_run (ρ := ρ) hz w
  have he1 : a.eval l = .int .i64 n := ev_sim r hl hn
  have he2 : a.eval c = .int .i64 m := ev_sim r hc' hm
  have hwr : ∀ q : Int, 0 ≤ q → q ≤ 1099511627776 → IntKind.i64.wrap q = q := by
    intro q h0 h1
    have e1 : IntKind.i64.bits = 64 := rfl
    have e2 : IntKind.i64.signed = true := rfl
    simp only [IntKind.wrap, e1, e2]
    have : q % (2 ^ 64 : Int) = q := by omega
    rw [this]
    have e3 : (2 ^ (64 - 1) : Int) = 9223372036854775808 := by decide
    rw [e3]
    have h2 : decide (q ≥ 9223372036854775808) = false := by simp; omega
    simp [h2]
  have hn1 := hwr n hb.1 (by omega)
  have hm1 := hwr m (by omega) hb.2.2.1
  have hbm : ((i.bytes : Int) * m) ≤ 1099511627776 := by
    have := hb.2.2.2
    have h2 : ((i.bytes * m.toNat : Nat) : Int) = (i.bytes : Int) * m := by push_cast; rw [Int.toNat_of_nonneg (by omega)]
    omega
  have hinfo : P.cellsOf el = i.size := by simp [Program.cellsOf, hi]
  have hsz2 : zx.cells.size = i.size := by have := hzc.length; simp at this; omega
  have fin : ∀ (cells : Array Value), All2 (SRel ρ) (rep m.toNat z) cells.toList → (do
      let zero ← if m.toNat * i.size = 0 then pure #[] else do pure (← Go.zeroValue el).cells
      let ad ← newRow el ((Array.range (m.toNat * i.size)).map (fun j => zero[j % zero.size]!))
      pure (.slice (some ad) n.toNat m.toNat) : Sem Value).run P w = .ok (.slice (some ⟨w.heap.size, 0, none⟩) n.toNat m.toNat) (pushed w (.cells cells el)) →
      ∀ (dst : Option Tmp) (ty : TypeId) (pos : String) (aft : Array Edge) (gd : Option (Nat × Bool)), ∃ x w' L, (execOp a.eval ⟨dst, .makeSlice t l c, ty, pos, aft, gd⟩).run P w = .ok (.value x) w' ∧
        Made ρ w (.cells (rep m.toNat z) el false) (fun i => .s (.sl (some (i, 0)) n.toNat m.toNat true z.length)) x w' L := by
    intro cells hcl hrun dst ty pos aft gd
    refine ⟨.slice (some ⟨w.heap.size, 0, none⟩) n.toNat m.toNat, pushed w (.cells cells el), ⟨w.heap.size, 0, cells.size⟩, ?_, made_of (cells_made hcl) fun ρ' j hj => ⟨_, 0, m.toNat, hj, rfl, by omega, Nat.le_refl _, fun _ => rfl, .inr ⟨rfl, .inl rfl⟩⟩⟩
    have e0 : ¬ ((decide (m < 0) || decide ((i.bytes : Int) * m > 2 ^ 48)) = true) := by
      have : (2 ^ 48 : Int) = 281474976710656 := by decide
      rw [this]
      simp
      omega
    simp only [execOp, Sem.run_bind, Instr.makeSlice, run_underlying hu, Result.andThen_ok, he1, he2, Go.asInt, Go.asIntOf, Sem.run_pure, run_typeInfo w hi, hn1, hm1]
    rw [if_neg (by simp only [Bool.or_eq_true, decide_eq_true_eq, not_or] at e0 ⊢; omega)]
    simp only [Sem.run_bind, run_askRoom, Result.andThen_ok, run_sizeOf w hi, hinfo]
    simp only [Sem.run_bind] at hrun
    rw [hrun]
    rfl
  by_cases h0 : m.toNat * i.size = 0
  · refine fin #[] ?_ ?_
    · have : rep m.toNat z = [] := by
        apply List.length_eq_zero_iff.1
        simp [rep, hsz.1, h0]
      rw [this]
      exact .nil
    · simp only [h0, if_true, Sem.run_bind, Sem.run_pure, Result.andThen_ok, newRow, run_newObj]
      have : (Array.range 0).map (fun j => (#[] : Array Value)[j % (#[] : Array Value).size]!) = #[] := by simp
      rw [this]
      rfl
  · refine fin ((Array.range (m.toNat * i.size)).map (fun j => zx.cells[j % zx.cells.size]!)) (rep_rel hzc m.toNat i.size hsz.1.symm) ?_
    simp only [h0, if_false, Sem.run_bind, Sem.run_pure, Result.andThen_ok, newRow, run_newObj, hzr]
    rfl

theorem sim_mkmap {t : TypeId} {q : Option Operand} {op : Op} (hc : cOp P (.makeMap t q) = some op) {ob : AO} {f : Nat → AV} (hv : makeOp e op = some (ob, f)) : MakesOp P ρ a (.makeMap t q) w ob f := by
  cases q with
  | some => cases hc
  | none =>
    cases hc
    simp only [makeOp, Option.some.injEq, Prod.mk.injEq] at hv
    obtain ⟨rfl, rfl⟩ := hv
    intro dst ty pos aft gd
    refine ⟨.map (some w.heap.size), pushed w (.map #[] 0), ⟨w.heap.size, 0, 0⟩, ?_, made_of ⟨#[], 0, pushed_at w _, .nil⟩ fun ρ' i hi => ⟨_, hi, rfl⟩⟩
    simp only [execOp, Sem.run_bind, Instr.makeMap, Option.map_none, run_newObj, Result.andThen_ok, Sem.run_pure]
    rfl

theorem bytes_rel (s : List UInt8) : All2 (SRel ρ) (s.map fun b => .int .u8 b.toNat) ((⟨s.toArray⟩ : ByteArray).data.map fun b => Value.int .u8 b.toNat).toList := by
  simp only [Array.toList_map]
  induction s with
  | nil => exact .nil
  | cons b s ih => exact .cons rfl (by simpa using ih)

theorem sim_s2b (r : EnvRel ρ e a.tmps) {s d : TypeId} {x : Operand} {op : Op} (hc : cOp P (.convert s d x) = some op) (hk : op.cls = .make) {ob : AO} {f : Nat → AV} (hv : makeOp e op = some (ob, f)) : MakesOp P ρ a (.convert s d x) w ob f := by
  simp only [cOp] at hc
  split at hc
  · cases hc; cases hk
  · cases hc; cases hk
  · rename_i el x' h1 h2 hx
    have hu8 : P.underlying el = some (.int .u8) ∧ some (Op.s2b el x') = some op := by
      revert hc
      cases P.underlying el with
      | none => intro hc; simp at hc
      | some q =>
        cases q <;> intro hc <;> first | (simp at hc; done) | skip
        rename_i k
        cases k <;> first | (simp at hc; done) | exact ⟨rfl, hc⟩
    obtain ⟨hu8, hc⟩ := hu8
    cases hc
    simp only [makeOp] at hv
    split at hv
    case h_2 => cases hv
    rename_i str hs
    simp only [Option.some.injEq, Prod.mk.injEq] at hv
    obtain ⟨rfl, rfl⟩ := hv
    have he : a.eval x = .string ⟨str.toArray⟩ := ev_sim r hx hs
    intro dst ty pos aft gd
    have hrun := Lib.run_convert_string_bytes (P := P) w s d el ⟨str.toArray⟩ h1 h2 hu8
    have hcap : str.length ≤ grownCap w str.length 0 el := by unfold grownCap; simp [Question.cut]
    refine ⟨.slice (some ⟨w.heap.size, 0, none⟩) (ByteArray.size ⟨str.toArray⟩) (grownCap w (ByteArray.size ⟨str.toArray⟩) 0 el), Lib.bytesWorld w el ⟨str.toArray⟩, ⟨w.heap.size, 0, (Lib.bytesCells w el ⟨str.toArray⟩).size⟩, ?_, ?_⟩
    · simp only [execOp, Sem.run_bind, he, hrun, Result.andThen_ok, Sem.run_pure]
    · have hsize : (Lib.bytesCells w el ⟨str.toArray⟩).size = grownCap w str.length 0 el := by
        simp [Lib.bytesCells, size_mk]; omega
      refine ⟨rfl, Lib.bytesWorld_size w el _, fun b hb => Lib.bytesWorld_at_old w el _ b hb, rfl, rfl, rfl, ⟨_, _, _, Lib.bytesWorld_at_new w el _, rfl, by simp [hsize]; omega, fun j v hv => ?_, fun _ o ho => by simp at ho ⊢; omega⟩, fun ρ' i hi => ⟨_, 0, grownCap w str.length 0 el, hi, by simp only [size_mk], Nat.le_refl _, hcap, fun h => by simp at h, .inr ⟨rfl, .inr (by simp [hsize])⟩⟩⟩
      simp only [List.getElem?_map, Option.map_eq_some_iff] at hv
      obtain ⟨b, hb, rfl⟩ := hv
      refine ⟨.int .u8 b.toNat, ?_, rfl⟩
      have hlt : j < str.length := by
        rcases Nat.lt_or_ge j str.length with q | q
        · exact q
        · rw [List.getElem?_eq_none q] at hb; cases hb
      simp only [Nat.zero_add]
      unfold Lib.bytesCells
      rw [Array.getElem?_append, if_pos (by simpa using hlt)]
      simp [hb]
  · split at hc
    · cases hc; cases hk
    · cases hc
  · cases hc

theorem make_sim (r : EnvRel ρ e a.tmps) {g : Go.Op} {op : Op} (hc : cOp P g = some op) (hk : op.cls = .make) {ob : AO} {f : Nat → AV} (hv : makeOp e op = some (ob, f)) : MakesOp P ρ a g w ob f := by
  cases g
  case alloc => exact sim_alloc hc hv
  case box => exact sim_box r hc hv
  case buildSlice => exact sim_bslice r hc hv
  case makeSlice => exact sim_mkslice r hc hv
  case makeMap => exact sim_mkmap hc hv
  case convert => exact sim_s2b r hc hk hv
  case call c =>
    exfalso
    obtain ⟨callee, args, ts⟩ := c
    cases callee with
    | builtin b =>
      simp only [cOp] at hc
      unfold cBuiltin at hc
      (repeat' (split at hc)) <;> first | (cases hc; done) | (cases hc; cases hk; done) | (simp only [Option.map_eq_some_iff] at hc; obtain ⟨_, _, rfl⟩ := hc; cases hk; done)
    | invoke => cases hc
    | value f =>
      cases f <;> simp only [cOp] at hc
      case func => simp only [Option.map_eq_some_iff] at hc; obtain ⟨_, _, rfl⟩ := hc; cases hk
      all_goals
        split at hc
        · cases hc; cases hk
        · cases hc
  case makeFunc f _ _ =>
    exfalso
    cases f <;> simp only [cOp] at hc <;> first | (cases hc; done) | (split at hc <;> cases hc; cases hk)
  case binOp =>
    exfalso
    simp only [cOp, cEq] at hc
    (repeat' (split at hc)) <;> first | (cases hc; done) | (cases hc; cases hk; done)
  all_goals first
    | (cases hc; done)
    | (exfalso; simp only [cOp, Option.map_eq_some_iff] at hc; obtain ⟨_, _, rfl⟩ := hc; cases hk; done)
    | (exfalso; simp only [cOp] at hc; (repeat' (split at hc)) <;> first | (cases hc; done) | (cases hc; cases hk; done) | (simp only [Option.map_eq_some_iff] at hc; obtain ⟨_, _, rfl⟩ := hc; cases hk; done))

end
end Go.AM
