/- Operations that read memory. -/
import Derived.Test.YtfniiaghlkacaaaGreatAm9
import Derived.Laws.BytesString
namespace Go.AM
open Go
set_option linter.unusedSimpArgs false

section
variable {P : Program} {ρ : Ren} {e : Env} {a : Act} {h : H} {w : World}

theorem cells_run (R : Rel ρ h w) {i o n : Nat} {cs : List SV} {L : Loc} (hc : cellsAt h i o n = some cs) (hL : ρ i = some L) :
    ∃ xs : List Value, xs.length = n ∧ (∀ P, (loadCells ⟨L.b, L.s + o, none⟩ n).run P w = .ok xs.toArray w) ∧ All2 (SRel ρ) cs xs := by
  unfold cellsAt at hc
  split at hc
  case h_2 => cases hc
  rename_i cs' t ro hg
  split at hc
  case isFalse => cases hc
  rename_i hl
  cases hc
  obtain ⟨c, t', fz, hb, hs, hn, hcell, _⟩ := R.objs i _ L hg hL
  have hlen : ((c.toList.drop (L.s + o)).take n).length = n := by simp; omega
  refine ⟨(c.toList.drop (L.s + o)).take n, hlen, fun P => ?_, ?_⟩
  · have := run_loads P (w := w) (b := L.b) (o := L.s + o) ((c.toList.drop (L.s + o)).take n) (by
      intro j x hx
      rw [cell_of hb]
      rw [List.getElem?_take] at hx
      split at hx
      · rw [List.getElem?_drop, Array.getElem?_toList] at hx
        exact hx
      · cases hx)
    rw [hlen] at this
    exact this
  · apply All2.of_get
    · rw [hlen]; simp; omega
    · intro j u x hu hx
      rw [List.getElem?_take] at hu hx
      split at hu
      · rename_i hj
        rw [if_pos hj] at hx
        rw [List.getElem?_drop] at hu hx
        rw [Array.getElem?_toList] at hx
        obtain ⟨y, hy, q⟩ := hcell _ _ hu
        rw [← Nat.add_assoc] at hy
        rw [hy] at hx
        cases hx
        exact q
      · cases hu

theorem load_run {t : TypeId} {g : Bool} {n : Nat} (hg : agg? P t = some g) (hn : size? P t = some n) (h1 : (g || n == 1) = true) (R : Rel ρ h w) {i o : Nat} {cs : List SV} {L : Loc}
    (hc : cellsAt h i o n = some cs) (hL : ρ i = some L) {v : AV} (hv : (if g then some (.agg cs) else match cs with | [v] => some (.s v) | _ => none) = some v) :
    ∃ y, (loadVar t ⟨L.b, L.s + o, none⟩).run P w = .ok y w ∧ VRel ρ v y := by
  obtain ⟨xs, hl, hr, q⟩ := cells_run R hc hL
  cases g with
  | true =>
    cases hv
    refine ⟨.agg xs.toArray, ?_, _, rfl, by simpa using q⟩
    simp only [loadVar, Sem.run_bind, isAgg_run hg, Result.andThen_ok, if_true, size_run hn, hr P, Sem.run_pure]
  | false =>
    have hn1 : n = 1 := by simpa using h1
    subst hn1
    simp only [Bool.false_eq_true, if_false] at hv
    split at hv
    case h_2 => cases hv
    rename_i u
    cases hv
    obtain ⟨x, rfl, hx⟩ := q.one_inv
    refine ⟨x, ?_, hx⟩
    have := hr P
    simp only [loadVar, Sem.run_bind, isAgg_run hg, Result.andThen_ok, Bool.false_eq_true, if_false]
    simp only [loadCells, loadCellsFrom, Sem.run_bind, add_none, Nat.add_zero, Sem.run_pure] at this
    cases hq : (load ⟨L.b, L.s + o, none⟩).run P w with
    | ok v w' =>
      rw [hq] at this
      simp [Result.andThen] at this
      rw [this.1, this.2]
    | halt q w' => rw [hq] at this; simp [Result.andThen] at this

theorem sim_load (r : EnvRel ρ e a.tmps) (R : Rel ρ h w) {t : TypeId} {x : Operand} {op : Op} (hc : cOp P (.load t x) = some op) {v : AV} (hv : readOp e h op = some v) : GivesOp P ρ a (.load t x) w v := by
  simp only [cOp] at hc
  split at hc
  case h_2 => cases hc
  rename_i n g x' hn hg hx
  split at hc
  case isFalse => cases hc
  rename_i h1
  cases hc
  simp only [readOp] at hv
  split at hv
  case h_2 => cases hv
  rename_i i o hb
  split at hv
  case h_2 => cases hv
  rename_i cs hcs
  obtain ⟨L, hL, he⟩ := ev_sim r hx hb
  obtain ⟨y, hy, q⟩ := load_run hg hn h1 R hcs hL hv
  intro dst ty pos aft gd
  refine ⟨y, ?_, q⟩
  simp only [execOp, Sem.run_bind, Instr.loadAt, he, Instr.sureAddr, Sem.run_pure, Result.andThen_ok, hy]

/-! ### bytes to a string -/

theorem bytes_of : ∀ {cs : List SV} {s : List UInt8} {xs : List Value}, bytesOf cs = some s → All2 (SRel ρ) cs xs →
    ∃ ns : List Int, xs = ns.map (Value.int .u8) ∧ s = ns.map fun n => UInt8.ofNat n.toNat
  | [], s, xs, h, hx => by
    cases hx
    simp [bytesOf] at h; subst h
    exact ⟨[], rfl, rfl⟩
  | c :: cs, s, xs, h, hx => by
    cases hx with
    | cons h1 h2 =>
      unfold bytesOf at h
      split at h
      · rename_i e1; cases e1
      · rename_i n cs' e1
        cases e1
        simp only [Option.map_eq_some_iff] at h
        obtain ⟨s', hs, rfl⟩ := h
        cases h1
        obtain ⟨ns, rfl, rfl⟩ := bytes_of hs h2
        exact ⟨n :: ns, rfl, rfl⟩
      · cases h

theorem fold_push : ∀ (ns : List Int) (acc : ByteArray), ns.foldl (fun r n => r.push (UInt8.ofNat n.toNat)) acc = ⟨acc.data ++ (ns.map fun n => UInt8.ofNat n.toNat).toArray⟩
  | [], acc => by simp
  | n :: ns, acc => by
    rw [List.foldl_cons, fold_push ns]
    simp [ByteArray.push]

theorem sim_b2s (r : EnvRel ρ e a.tmps) (R : Rel ρ h w) {s d : TypeId} {x : Operand} {op : Op} (hc : cOp P (.convert s d x) = some op) (hk : op.cls = .read) {v : AV} (hv : readOp e h op = some v) : GivesOp P ρ a (.convert s d x) w v := by
  simp only [cOp] at hc
  split at hc
  · cases hc; cases hk
  · cases hc; cases hk
  · split at hc
    · cases hc; cases hk
    · cases hc
  · rename_i el x' h1 h2 hx
    have hu8 : P.underlying el = some (.int .u8) ∧ some (Op.b2s x') = some op := by
      revert hc
      cases P.underlying el with
      | none => intro hc; simp at hc
      | some q =>
        cases q <;> intro hc <;> first | (simp at hc; done) | skip
        rename_i k
        cases k <;> first | (simp at hc; done) | exact ⟨rfl, hc⟩
    obtain ⟨hu8, hc⟩ := hu8
    cases hc
    simp only [readOp] at hv
    intro dst ty pos aft gd
    split at hv
    · rename_i hb
      cases hv
      obtain ⟨_, _, _, he⟩ := ev_sim r hx hb
      refine ⟨.string ⟨#[]⟩, ?_, rfl⟩
      simp only [execOp, Sem.run_bind, he, run_convert_bytes_string w s d el none _ _ h1 hu8 h2, Conv.bytesToString, Sem.run_pure, Result.andThen_ok]
      rfl
    · rename_i i o len cap ex z hb
      split at hv
      · cases hv
      rename_i hz
      have hz : z = 1 := by simpa using hz
      subst hz
      split at hv
      case h_2 => cases hv
      rename_i str hs
      cases hv
      simp only [Option.bind_eq_some_iff] at hs
      obtain ⟨cs, hcs, hbs⟩ := hs
      obtain ⟨L, o', c', hL, he, hlc, hcc, hex, hof⟩ := ev_sim r hx hb
      obtain ⟨xs, hl, hr, q⟩ := cells_run R hcs hL
      obtain ⟨ns, rfl, rfl⟩ := bytes_of hbs q
      have hload : (loadCells ⟨L.b, o', none⟩ len).run P w = .ok (ns.map (Value.int .u8)).toArray w := by
        by_cases h0 : len = 0
        · subst h0
          have : ns = [] := by simpa using hl
          subst this
          rfl
        · have : o' = L.s + o := by
            rcases hof with h | h
            · omega
            · exact h.1
          rw [this]
          exact hr P
      refine ⟨_, ?_, rfl⟩
      simp only [execOp, Sem.run_bind, he, run_convert_bytes_string w s d el _ _ _ h1 hu8 h2, run_bytesToString w _ len c' ns hload, fold_push, Result.andThen_ok, Sem.run_pure]
      congr 3
      simp [ByteArray.empty, ByteArray.emptyWithCapacity]
      rfl
    · cases hv
  · cases hc

/-! ### maps -/

/-- A key that a map takes: all that it holds is looked at. -/
def ckFields (em : Bool) (d : Nat) (xs : Array Value) : List Field → Sem Unit
  | [] => pure ()
  | f :: fs => do
    if f.name ≠ "_" then
      let x ← Go.part f.type xs f.offset
      Instr.checkKey em d f.type x
    ckFields em d xs fs

theorem ck_struct (em : Bool) (d : Nat) {t : TypeId} {fs : Array Field} (hu : P.underlying t = some (.struct fs)) (xs : Array Value) (w : World) :
    (Instr.checkKey em (d + 1) t (.agg xs)).run P w = (ckFields em d xs fs.toList).run P w := by
  simp only [Instr.checkKey, Sem.run_bind, run_underlying hu, Result.andThen_ok]
  rw [← Array.forIn_toList]
  generalize fs.toList = l
  clear hu
  induction l generalizing w with
  | nil => simp [ckFields]
  | cons f l ih =>
    simp only [List.forIn_cons, ckFields, Sem.run_bind, Sem.run_ite]
    by_cases hn : f.name = "_"
    · simp only [hn, ne_eq, not_true_eq_false, if_false, Sem.run_pure, Result.andThen_ok]
      exact ih w
    · simp only [hn, ne_eq, not_false_eq_true, if_true, Sem.run_bind]
      generalize (Go.part f.type xs f.offset).run P w = r1
      cases r1 with
      | ok x w1 =>
        simp only [Result.andThen_ok]
        generalize (Instr.checkKey em d f.type x).run P w1 = r2
        cases r2 with
        | ok u w2 => simp only [Result.andThen_ok, Sem.run_pure]; exact ih w2
        | halt => rfl
      | halt => rfl

theorem scalar_of {t : TypeId} (h : scalar P t = true) : size? P t = some 1 ∧ agg? P t = some false ∧ (P.underlying t = some .bool ∨ (∃ k, P.underlying t = some (.int k)) ∨ P.underlying t = some .string) := by
  unfold scalar at h
  simp only [Bool.and_eq_true, beq_iff_eq] at h
  refine ⟨h.1, ?_⟩
  have h2 := h.2
  split at h2
  · rename_i hu; exact ⟨by simp [agg?, hu], .inl hu⟩
  · rename_i k hu; exact ⟨by simp [agg?, hu], .inr (.inl ⟨_, hu⟩)⟩
  · rename_i hu; exact ⟨by simp [agg?, hu], .inr (.inr hu)⟩
  · cases h2

theorem ck_scalar {t : TypeId} (h : scalar P t = true) (em : Bool) (D : Nat) (x : Value) (w : World) : (Instr.checkKey em (D + 1) t x).run P w = .ok () w := by
  obtain ⟨_, _, hu⟩ := scalar_of h
  rcases hu with hu | ⟨k, hu⟩ | hu <;> cases x <;> simp [Instr.checkKey, run_underlying hu]

theorem ckFields_run (em : Bool) (D : Nat) (X : List Value) (w : World) : ∀ (fs : List Field) (off tot : Nat), runs P off fs = some tot → (fs.all fun f => scalar P f.type) = true → tot ≤ X.length →
    (ckFields em (D + 1) X.toArray fs).run P w = .ok () w
  | [], _, _, _, _, _ => by simp [ckFields]
  | f :: fs, off, tot, hr, ha, hl => by
    simp only [List.all_cons, Bool.and_eq_true] at ha
    simp only [runs] at hr
    split at hr
    case isFalse => cases hr
    rename_i ho
    obtain ⟨h1, h2, _⟩ := scalar_of ha.1
    have hc : P.cellsOf f.type = 1 := cellsOf_of h1
    have mono : ∀ (fs : List Field) (off tot : Nat), runs P off fs = some tot → off ≤ tot := by
      intro fs
      induction fs with
      | nil => intro off tot h; simp [runs] at h; omega
      | cons g gs ih =>
        intro off tot h
        simp only [runs] at h
        split at h
        · have := ih _ _ h; omega
        · cases h
    have hm := mono fs _ _ hr
    have ih := ckFields_run em D X w fs _ tot hr ha.2 hl
    simp only [ckFields, Sem.run_bind, Sem.run_ite]
    split
    · rw [part_run h2 h1 (.inr rfl) (by simp; omega) w]
      simp only [Result.andThen_ok, ck_scalar ha.1, ih]
    · simp only [Sem.run_pure, Result.andThen_ok, ih]

theorem ck_run {t : TypeId} {g : Bool} {ks : List K} (hk : keyOk P t = true) (hg : agg? P t = some g) (hks : kinds P 12 t = some ks) {u : AV} {x : Value} (hx : VRel ρ u x) {v : AV} {b : Bool} (he : eqk g ks u v = some b)
    (em : Bool) (w : World) : (Instr.checkKey em 10000 t x).run P w = .ok () w := by
  unfold keyOk at hk
  rw [Bool.or_eq_true] at hk
  rcases hk with hk | hk
  · exact ck_scalar hk em 9999 x w
  · split at hk
    case h_2 => cases hk
    rename_i fs hu
    have hgt : g = true := by simp [agg?, hu] at hg; first | exact hg | exact hg.symm
    subst hgt
    have hl : ks.length = P.cellsOf t ∧ runs P 0 fs.toList = some (P.cellsOf t) := by
      have q := eq_run (ρ := ρ) 12 t ks hks
      refine ⟨q.1, ?_⟩
      have one : ∀ d, kinds P (d + 1) t = some ks → runs P 0 fs.toList = some (P.cellsOf t) := by
        intro d hks
        simp only [kinds, hu, q.2.1, if_true] at hks
        split at hks
        · rename_i hc; exact hc.2
        · cases hks
      exact one 11 hks
    cases u with
    | agg cs =>
      cases v with
      | agg ds =>
        simp only [eqk, if_true] at he
        obtain ⟨xs, rfl, hx⟩ := hx
        have h1 := eqcs_len he
        have h2 := hx.length
        have := ckFields_run em 9998 xs.toList w fs.toList 0 _ hl.2 hk (by omega)
        rw [ck_struct em 9999 hu]
        simpa using this
      | _ => simp [eqk] at he
    | s u => cases v <;> simp [eqk] at he
    | tup => simp [eqk] at he

/-- The entry that is found. -/
def foundAt (r : Option Nat) (i : Nat) (es : List MapEntry) : Option (Nat × Value) := r.bind fun j => (es[j - i]?).map fun e => (j, e.val)

theorem ix_ge {g : Bool} {ks : List K} {u : AV} : ∀ {es : List (AV × SV)} {i : Nat} {j : Nat}, ixOf g ks u es i = some (some j) → i ≤ j ∧ j < i + es.length
  | [], i, j, h => by simp [ixOf] at h
  | e :: es, i, j, h => by
    simp only [ixOf] at h
    split at h
    · cases h; simp
    · have := ix_ge h; simp; omega
    · cases h

theorem asking_run {t : TypeId} {g : Bool} {ks : List K} (hg : agg? P t = some g) (hk : kinds P 12 t = some ks) {u : AV} {x : Value} (hx : VRel ρ u x) (w : World) :
    ∀ {es : List (AV × SV)} {es' : List MapEntry} {i : Nat} {r : Option Nat}, ixOf g ks u es i = some r → All2 (ERel ρ) es es' → (Instr.findAsking t x es' i).run P w = .ok (foundAt r i es') w
  | [], es', i, r, h, he => by
    cases he
    simp [ixOf] at h; subst h
    simp [Instr.findAsking, foundAt]
  | e :: es, es', i, r, h, he => by
    cases he with
    | cons h1 h2 =>
      rename_i e' es'
      simp only [ixOf] at h
      split at h
      · rename_i hq
        cases h
        have := eqk_run hg hk hx h1.1 hq 9988 w
        simp only [Instr.findAsking, Sem.run_bind, Op.equal, Op.maxDepth, this, Result.andThen_ok, if_true, Sem.run_pure, foundAt]
        simp
      · rename_i hq
        have := eqk_run hg hk hx h1.1 hq 9988 w
        have ih := asking_run hg hk hx w h h2
        simp only [Instr.findAsking, Sem.run_bind, Op.equal, Op.maxDepth, this, Result.andThen_ok, Bool.false_eq_true, if_false, ih]
        congr 1
        unfold foundAt
        cases r with
        | none => rfl
        | some j =>
          have := ix_ge h
          simp only [Option.bind_some]
          rw [show j - i = (j - (i + 1)) + 1 by omega]
          simp
      · cases h

theorem now_run {t : TypeId} {g : Bool} {ks : List K} (hg : agg? P t = some g) (hk : kinds P 12 t = some ks) {d : TypeDesc} (hd : P.underlying t = some d) {u : AV} {x : Value} (hx : VRel ρ u x) :
    ∀ {es : List (AV × SV)} {es' : List MapEntry} {i : Nat} {r : Option Nat} {q : Option (Nat × Value)}, ixOf g ks u es i = some r → All2 (ERel ρ) es es' → Instr.findNow d x es' i = some q → q = foundAt r i es'
  | [], es', i, r, q, h, he, hq => by
    cases he
    simp [ixOf] at h; subst h
    simp [Instr.findNow] at hq; subst hq
    simp [foundAt]
  | e :: es, es', i, r, q, h, he, hq => by
    cases he with
    | cons h1 h2 =>
      rename_i e' es'
      obtain ⟨ky, vl, bn⟩ := e'
      have hky : VRel ρ e.1 ky := h1.1
      simp only [ixOf] at h
      simp only [Instr.findNow] at hq
      -- what the quick look says is what equality says
      have same : ∀ {b c : Bool}, eqk g ks u e.1 = some b → Instr.sameNow d x ky = some c → c = b := by
        intro b c hb hc
        have hr := eqk_run hg hk hx hky hb 9988 (default : World)
        unfold Instr.sameNow at hc
        split at hc
        · split at hc
          · rename_i hkk; subst hkk; cases hc
            rw [run_equalIn_int (default : World) 9999 t _ _ _ _ hd] at hr
            simpa using hr
          · cases hc
        · cases hc
          rw [run_equalIn_string (default : World) 9999 t _ _ hd] at hr
          simp only [Result.ok.injEq, and_true] at hr
          rw [beq_toListBytes, hr]
        · cases hc
          rw [run_equalIn_bool' (default : World) 9999 t _ _ hd] at hr
          simpa using hr
        · cases hc
      split at hq
      · rename_i hs
        cases hq
        split at h
        · rename_i hb; cases h; simp [foundAt]
        · rename_i hb; have := same hb hs; cases this
        · cases h
      · rename_i hs
        split at h
        · rename_i hb; have := same hb hs; cases this
        · rename_i hb
          have ih := now_run hg hk hd hx h h2 hq
          rw [ih]
          unfold foundAt
          cases r with
          | none => rfl
          | some j =>
            have := ix_ge h
            simp only [Option.bind_some]
            rw [show j - i = (j - (i + 1)) + 1 by omega]
            simp
        · cases h
      · cases hq

theorem key_run {t : TypeId} {g : Bool} {ks : List K} (hg : agg? P t = some g) (hk : kinds P 12 t = some ks) {u : AV} {x : Value} (hx : VRel ρ u x) (w : World)
    {es : List (AV × SV)} {es' : List MapEntry} {r : Option Nat} (h : ixOf g ks u es 0 = some r) (he : All2 (ERel ρ) es es') : (Instr.findKey t x es').run P w = .ok (foundAt r 0 es') w := by
  have hd : ∃ d, P.underlying t = some d := by
    unfold agg? at hg
    simp only [Option.map_eq_some_iff] at hg
    obtain ⟨d, hd, _⟩ := hg
    exact ⟨d, hd⟩
  obtain ⟨d, hd⟩ := hd
  simp only [Instr.findKey, Sem.run_bind, run_underlying hd, Result.andThen_ok]
  split
  · rename_i q hq
    rw [now_run hg hk hd hx h he hq]
    rfl
  · exact asking_run hg hk hx w h he

theorem ix_eqk {g : Bool} {ks : List K} {u : AV} : ∀ {es : List (AV × SV)} {i : Nat} {r : Option Nat}, ixOf g ks u es i = some r → es ≠ [] → ∃ v b, eqk g ks u v = some b
  | [], _, _, _, hn => absurd rfl hn
  | e :: es, i, r, h, _ => by
    simp only [ixOf] at h
    split at h
    · rename_i hq; exact ⟨_, _, hq⟩
    · rename_i hq; exact ⟨_, _, hq⟩
    · cases h

/-- A key's own shape: it can be held against itself. -/
def fitsKey (g : Bool) (ks : List K) (u : AV) : Bool := (eqk g ks u u).isSome

theorem map_of (R : Rel ρ h w) {i : Nat} {es : List (AV × SV)} {L : Loc} (hg : h.get i = some (.map es)) (hL : ρ i = some L) :
    ∃ es' clock, w.heap[L.b]? = some (.map es' clock) ∧ All2 (ERel ρ) es es'.toList := R.objs i _ L hg hL

theorem getObj_run {b : Nat} {es : Array MapEntry} {c : Nat} (hb : w.heap[b]? = some (.map es c)) : (Go.getObj b).run P w = .ok (.map es c) w := by
  simp [Go.getObj, Sem.run, hb]

theorem zeroS_run {t : TypeId} {z : SV} (h : zeroS? P t = some z) (w : World) : ∃ x, (Go.zeroValue t).run P w = .ok x w ∧ SRel ρ z x := by
  unfold zeroS? at h
  simp only [Option.bind_eq_some_iff] at h
  obtain ⟨x, ⟨i, hi, hx⟩, hz⟩ := h
  exact ⟨x, by simp [Go.zeroValue, run_typeInfo w hi, hx], ofCell_rel hz⟩

theorem sim_lookup (r : EnvRel ρ e a.tmps) (R : Rel ρ h w) {t : TypeId} {m k : Operand} {ok : Bool} {op : Op} (hc : cOp P (.lookup t m k ok) = some op) {v : AV} (hv : readOp e h op = some v) : GivesOp P ρ a (.lookup t m k ok) w v := by
  simp only [cOp] at hc
  split at hc
  case h_2 => cases hc
  rename_i kt el m' k' hu hm hk
  split at hc
  case h_2 => cases hc
  rename_i z hz
  split at hc
  case h_2 => cases hc
  rename_i ks hks
  split at hc
  case h_2 => cases hc
  rename_i g he hg
  split at hc
  case isFalse => cases hc
  rename_i hko
  cases hc
  simp only [Bool.and_eq_true] at hko
  simp only [readOp] at hv
  split at hv
  case h_2 => cases hv
  rename_i i kv hmv hkv
  split at hv
  case isFalse => cases hv
  rename_i hfit
  split at hv
  case h_2 => cases hv
  rename_i es hes
  obtain ⟨L, hL, hme⟩ := ev_sim r hm hmv
  have hkr := ev_sim r hk hkv
  obtain ⟨es', clock, hb, hall⟩ := map_of R hes hL
  obtain ⟨zx, hzr, hzq⟩ := zeroS_run (ρ := ρ) hz w
  obtain ⟨b, hfb⟩ := Option.isSome_iff_exists.1 hfit
  have hck := ck_run hko.1 hg hks hkr hfb es'.isEmpty w
  intro dst ty pos aft gd
  split at hv
  · rename_i hix
    have hkey := key_run hg hks hkr w hix hall
    cases hv
    refine ⟨if ok then .tuple #[zx, .bool false] else zx, ?_, ?_⟩
    · simp only [execOp, Sem.run_bind, Instr.lookup, run_underlying hu, Result.andThen_ok, hme, getObj_run hb, Sem.run_pure, hck, hkey, foundAt, Option.bind_none, hzr]
    · cases ok with
      | true => exact ⟨_, rfl, .cons ⟨_, rfl, hzq⟩ (.one ⟨_, rfl, rfl⟩)⟩
      | false => exact hzq
  · rename_i j hix
    have hkey := key_run hg hks hkr w hix hall
    split at hv
    case h_2 => cases hv
    rename_i en hen
    cases hv
    obtain ⟨en', hen', q⟩ := hall.get j en hen
    refine ⟨if ok then .tuple #[en'.val, .bool true] else en'.val, ?_, ?_⟩
    · simp only [execOp, Sem.run_bind, Instr.lookup, run_underlying hu, Result.andThen_ok, hme, getObj_run hb, Sem.run_pure, hck, hkey, foundAt, Option.bind_some, Nat.sub_zero, hen', Option.map_some]
    · cases ok with
      | true => exact ⟨_, rfl, .cons ⟨_, rfl, q.2⟩ (.one ⟨_, rfl, rfl⟩)⟩
      | false => exact q.2
  · cases hv

theorem read_sim (r : EnvRel ρ e a.tmps) (R : Rel ρ h w) {g : Go.Op} {op : Op} (hc : cOp P g = some op) (hk : op.cls = .read) {v : AV} (hv : readOp e h op = some v) : GivesOp P ρ a g w v := by
  cases g
  case load => exact sim_load r R hc hv
  case lookup => exact sim_lookup r R hc hv
  case convert => exact sim_b2s r R hc hk hv
  case call c =>
    exfalso
    obtain ⟨callee, args, ts⟩ := c
    cases callee with
    | builtin b =>
      simp only [cOp] at hc
      unfold cBuiltin at hc
      (repeat' (split at hc)) <;> first | (cases hc; done) | (cases hc; cases hk; done) | (simp only [Option.map_eq_some_iff] at hc; obtain ⟨_, _, rfl⟩ := hc; cases hk; done)
    | invoke => cases hc
    | value f =>
      cases f <;> simp only [cOp] at hc
      case func => simp only [Option.map_eq_some_iff] at hc; obtain ⟨_, _, rfl⟩ := hc; cases hk
      all_goals
        split at hc
        · cases hc; cases hk
        · cases hc
  case makeMap t q => cases q with
    | none => cases hc; cases hk
    | some => cases hc
  case makeFunc f _ _ =>
    exfalso
    cases f <;> simp only [cOp] at hc <;> first | (cases hc; done) | (split at hc <;> cases hc; cases hk)
  case binOp =>
    exfalso
    simp only [cOp, cEq] at hc
    (repeat' (split at hc)) <;> first | (cases hc; done) | (cases hc; cases hk; done)
  all_goals first
    | (cases hc; done)
    | (exfalso; simp only [cOp, Option.map_eq_some_iff] at hc; obtain ⟨_, _, rfl⟩ := hc; cases hk; done)
    | (exfalso; simp only [cOp] at hc; (repeat' (split at hc)) <;> first | (cases hc; done) | (cases hc; cases hk; done) | (simp only [Option.map_eq_some_iff] at hc; obtain ⟨_, _, rfl⟩ := hc; cases hk; done))

end
end Go.AM
