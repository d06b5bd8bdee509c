/- Functions of the program as plain functions. -/
import Derived.Test.YtfniiaghlkacaaaGreatP20
import Derived.Test.YtfniiaghlkacaaaGreatGm8
import Derived.Test.YtfniiaghlkacaaaGreatT20C
namespace Go.AM.T20
open Go Go.AM Go.AM.G Go.Proofs
set_option linter.unusedSimpArgs false

noncomputable section

def leK : Nat → List SV → Option Nat
  | 0, _ => some 0
  | n + 1, .int .u8 (.ofNat b) :: l => F.ifb (Nat.ble b 255) (F.ob (leK n l) fun r => some (Nat.add b (Nat.mul 256 r))) none
  | _, _ => none

def sumK : Nat → Nat → Nat → List SV → Option Nat
  | 0, _, acc, _ => some acc
  | n + 1, k, acc, .int .u8 (.ofNat b) :: l => F.ifb (Nat.ble b 255) (sumK n (Nat.succ k) (Nat.add acc (Nat.mul (Nat.succ k) (Nat.succ b))) l) none
  | _, _, _, _ => none

def putK : Nat → Nat → List SV
  | 0, _ => []
  | k + 1, n => .int .u8 (.ofNat (Nat.mod n 256)) :: putK k (Nat.div n 256)

def p224 (vs : List AV) (h : H) : R := match vs with
  | [.s (.sl (some (i, o)) len _ _ 1), .s (.int .i64 (.ofNat a))] => F.ifb (and (Nat.ble (Nat.add a 8) len) (Nat.ble len 65536)) (F.ob (F.get h.m i) fun ob => match ob with
    | .cells cs _ _ => F.ob (leK 8 (List.drop (Nat.add o a) cs)) fun v => some (.tup [(false, [.int .u64 (.ofNat v)]), (false, [.int .i64 0])], h)
    | _ => none) none
  | _ => none

def p239 (vs : List AV) (h : H) : R := match vs with
  | [.s (.sl (some (i, o)) len _ _ 1)] => F.ifb (and (Nat.ble 1 len) (Nat.ble len 65536)) (F.ob (F.get h.m i) fun ob => match ob with
    | .cells cs _ _ => F.ob (sumK len 0 0 (List.drop o cs)) fun v => some (.s (.int .u32 (.ofNat (Nat.mod v 4294967296))), h)
    | _ => none) none
  | _ => none

def p188 (vs : List AV) (h : H) : R := match vs with
  | [.s (.int .u64 (.ofNat n))] => some (.s (.sl (some (Nat.add h.nx 15, 0)) 8 8 false 1), top h 15 (.cells (putK 8 n) 5 false))
  | _ => none

def p180 (vs : List AV) (h : H) : R := match vs with
  | [.s (.ptr (some (pi, po))), .s (.int .i64 (.ofNat a))] => F.ob (F.cell1 h pi po) fun c => match c with
    | .sl (some (li, lo)) n _ _ 1 => F.ifb (Nat.blt a n) (F.ob (F.cell1 h li (Nat.add lo a)) fun c => match c with
      | .sl (some (si, so)) len _ _ 1 => F.ifb (and (Nat.ble 1 len) (and (Nat.ble len 65536) (Nat.blt si h.nx))) (F.ob (F.cells h si so len) fun cs =>
          some (.tup [(false, [.sl (some (Nat.add h.nx 1, 0)) len len false 1]), (false, [.int .i64 0])], top h 1 (.cells cs 5 false))) none
      | _ => none) none
    | _ => none
  | _ => none

end

theorem leK_ok : ∀ {n : Nat} {l : List SV} {v : Nat}, leK n l = some v → ∃ bs : List UInt8, bs.length = n ∧ n ≤ l.length ∧ l.take n = by8 bs ∧ v = le bs
  | 0, l, v, h => by simp only [leK, Option.some.injEq] at h; exact ⟨[], rfl, by omega, by simp [by8], h.symm⟩
  | n + 1, l, v, h => by
    unfold leK at h
    split at h
    · rename_i heq; cases heq
    · rename_i n' b l' heq
      cases heq
      rw [F.ifb_eq] at h
      split at h
      · rename_i hb
        simp only [ob_some, Option.some.injEq] at h
        obtain ⟨r, h1, rfl⟩ := h
        obtain ⟨bs, q1, q2, q3, rfl⟩ := leK_ok h1
        have hb : b ≤ 255 := by simpa using hb
        have e : (UInt8.ofNat b).toNat = b := by rw [UInt8.toNat_ofNat']; omega
        refine ⟨UInt8.ofNat b :: bs, by simp [q1], by simp; omega, ?_, ?_⟩
        · simp only [List.take_succ_cons, q3, by8, List.map_cons, e]; rfl
        · simp only [le, e]; rfl
      · cases h
    · cases h

theorem sumK_ok : ∀ {n k acc : Nat} {l : List SV} {v : Nat}, sumK n k acc l = some v → ∃ bs : List UInt8, bs.length = n ∧ n ≤ l.length ∧ l.take n = by8 bs ∧ v = acc + sumN k bs
  | 0, k, acc, l, v, h => by simp only [sumK, Option.some.injEq] at h; exact ⟨[], rfl, by omega, by simp [by8], by simp [sumN, h]⟩
  | n + 1, k, acc, l, v, h => by
    unfold sumK at h
    split at h
    · rename_i heq; cases heq
    · rename_i k acc _ _ _ _ _ b l' heq
      cases heq
      rw [F.ifb_eq] at h
      split at h
      · rename_i hb
        obtain ⟨bs, q1, q2, q3, rfl⟩ := sumK_ok h
        have hb : b ≤ 255 := by simpa using hb
        have e : (UInt8.ofNat b).toNat = b := by rw [UInt8.toNat_ofNat']; omega
        refine ⟨UInt8.ofNat b :: bs, by simp [q1], by simp; omega, ?_, ?_⟩
        · simp only [List.take_succ_cons, q3, by8, List.map_cons, e]; rfl
        · simp only [sumN, e]
          have : Nat.add acc (Nat.mul (Nat.succ k) (Nat.succ b)) = acc + (k + 1) * (b + 1) := rfl
          rw [this, Nat.succ_eq_add_one]; omega
      · cases h
    · cases h

theorem cells_of {h : H} {i o n : Nat} {cs : List SV} {t : TypeId} {ro : Bool} {bs : List UInt8} (hg : F.get h.m i = some (.cells cs t ro)) (h0 : 1 ≤ n) (h1 : n ≤ (cs.drop o).length) (h2 : (cs.drop o).take n = by8 bs) : cellsAt h i o n = some (by8 bs) := by
  rw [F.get_eq] at hg
  rw [cellsAt_eq (h := h) (i := i) hg (by rw [List.length_drop] at h1; omega), h2]

theorem cell1_ok {h : H} {i o : Nat} {v : SV} (hv : F.cell1 h i o = some v) : cellsAt h i o 1 = some [v] := by
  unfold F.cell1 at hv
  rw [ob_some] at hv
  obtain ⟨ob, h1, h2⟩ := hv
  rw [F.hget_eq] at h1
  cases ob with
  | map => cases h2
  | cells cs t ro =>
    simp only [F.nth_eq] at h2
    have hl : o < cs.length := by
      rcases Nat.lt_or_ge o cs.length with q | q
      · exact q
      · rw [List.getElem?_eq_none q] at h2; cases h2
    rw [cellsAt_eq h1 (by omega), F.take1_drop, h2]

/-- The machine's own table: all functions by their code. -/
noncomputable abbrev tab1 : FuncId → Option Entry := tabE tr

theorem codes_ok : ∀ p ∈ codes, tab1 p.1 = some (.code p.2.fn) := List.forall_mem_cons.2 ⟨(by kernel_rfl), List.forall_mem_cons.2 ⟨(by kernel_rfl), List.forall_mem_cons.2 ⟨(by kernel_rfl), List.forall_mem_cons.2 ⟨(by kernel_rfl), List.forall_mem_cons.2 ⟨(by kernel_rfl), List.forall_mem_cons.2 ⟨(by kernel_rfl), List.forall_mem_cons.2 ⟨(by kernel_rfl), List.forall_mem_cons.2 ⟨(by kernel_rfl), List.forall_mem_cons.2 ⟨(by kernel_rfl), List.forall_mem_cons.2 ⟨(by kernel_rfl), List.forall_mem_cons.2 ⟨(by kernel_rfl), List.forall_mem_cons.2 ⟨(by kernel_rfl), List.forall_mem_cons.2 ⟨(by kernel_rfl), List.forall_mem_cons.2 ⟨(by kernel_rfl), List.forall_mem_cons.2 ⟨(by kernel_rfl), List.forall_mem_cons.2 ⟨(by kernel_rfl), List.forall_mem_cons.2 ⟨(by kernel_rfl), List.forall_mem_cons.2 ⟨(by kernel_rfl), List.forall_mem_cons.2 ⟨(by kernel_rfl), List.forall_mem_cons.2 ⟨(by kernel_rfl), List.forall_mem_cons.2 ⟨(by kernel_rfl), List.forall_mem_cons.2 ⟨(by kernel_rfl), List.forall_mem_cons.2 ⟨(by kernel_rfl), List.forall_mem_cons.2 ⟨(by kernel_rfl), List.forall_mem_cons.2 ⟨(by kernel_rfl), List.forall_mem_cons.2 ⟨(by kernel_rfl), List.forall_mem_cons.2 ⟨(by kernel_rfl), List.forall_mem_cons.2 ⟨(by kernel_rfl), List.forall_mem_cons.2 ⟨(by kernel_rfl), List.forall_mem_cons.2 ⟨(by kernel_rfl), List.forall_mem_cons.2 ⟨(by kernel_rfl), List.forall_mem_cons.2 ⟨(by kernel_rfl), List.forall_mem_cons.2 ⟨(by kernel_rfl), List.forall_mem_cons.2 ⟨(by kernel_rfl), List.forall_mem_cons.2 ⟨(by kernel_rfl), List.forall_mem_cons.2 ⟨(by kernel_rfl), List.forall_mem_cons.2 ⟨(by kernel_rfl), List.forall_mem_cons.2 ⟨(by kernel_rfl), List.forall_mem_cons.2 ⟨(by kernel_rfl), List.forall_mem_cons.2 ⟨(by kernel_rfl), List.forall_mem_cons.2 ⟨(by kernel_rfl), List.forall_mem_cons.2 ⟨(by kernel_rfl), List.forall_mem_cons.2 ⟨(by kernel_rfl), List.forall_mem_cons.2 ⟨(by kernel_rfl), List.forall_mem_cons.2 ⟨(by kernel_rfl), List.forall_mem_cons.2 ⟨(by kernel_rfl), List.forall_mem_cons.2 ⟨(by kernel_rfl), List.forall_mem_cons.2 ⟨(by kernel_rfl), List.forall_mem_cons.2 ⟨(by kernel_rfl), List.forall_mem_cons.2 ⟨(by kernel_rfl), List.forall_mem_cons.2 ⟨(by kernel_rfl), List.forall_mem_cons.2 ⟨(by kernel_rfl), List.forall_mem_cons.2 ⟨(by kernel_rfl), List.forall_mem_cons.2 ⟨(by kernel_rfl), List.forall_mem_cons.2 ⟨(by kernel_rfl), List.forall_mem_cons.2 ⟨(by kernel_rfl), List.forall_mem_cons.2 ⟨(by kernel_rfl), List.forall_mem_cons.2 ⟨(by kernel_rfl), List.forall_mem_cons.2 ⟨(by kernel_rfl), List.forall_mem_cons.2 ⟨(by kernel_rfl), List.forall_mem_cons.2 ⟨(by kernel_rfl), List.forall_mem_cons.2 ⟨(by kernel_rfl), List.forall_mem_cons.2 ⟨(by kernel_rfl), List.forall_mem_cons.2 ⟨(by kernel_rfl), List.forall_mem_cons.2 ⟨(by kernel_rfl), List.forall_mem_cons.2 ⟨(by kernel_rfl), List.forall_mem_cons.2 ⟨(by kernel_rfl), List.forall_mem_cons.2 ⟨(by kernel_rfl), List.forall_mem_cons.2 ⟨(by kernel_rfl), List.forall_mem_cons.2 ⟨(by kernel_rfl), List.forall_mem_cons.2 ⟨(by kernel_rfl), List.forall_mem_cons.2 ⟨(by kernel_rfl), List.forall_mem_cons.2 ⟨(by kernel_rfl), List.forall_mem_cons.2 ⟨(by kernel_rfl), List.forall_mem_cons.2 ⟨(by kernel_rfl), List.forall_mem_cons.2 ⟨(by kernel_rfl), List.forall_mem_cons.2 ⟨(by kernel_rfl), List.forall_mem_cons.2 ⟨(by kernel_rfl), List.forall_mem_cons.2 ⟨(by kernel_rfl), List.forall_mem_cons.2 ⟨(by kernel_rfl), List.forall_mem_cons.2 ⟨(by kernel_rfl), List.forall_mem_cons.2 ⟨(by kernel_rfl), List.forall_mem_cons.2 ⟨(by kernel_rfl), List.forall_mem_cons.2 ⟨(by kernel_rfl), List.forall_mem_cons.2 ⟨(by kernel_rfl), List.forall_mem_cons.2 ⟨(by kernel_rfl), List.forall_mem_cons.2 ⟨(by kernel_rfl), List.forall_mem_cons.2 ⟨(by kernel_rfl), List.forall_mem_cons.2 ⟨(by kernel_rfl), List.forall_mem_cons.2 ⟨(by kernel_rfl), List.forall_mem_cons.2 ⟨(by kernel_rfl), List.forall_mem_cons.2 ⟨(by kernel_rfl), List.forall_mem_cons.2 ⟨(by kernel_rfl), List.forall_mem_cons.2 ⟨(by kernel_rfl), List.forall_mem_cons.2 ⟨(by kernel_rfl), List.forall_mem_cons.2 ⟨(by kernel_rfl), List.forall_mem_cons.2 ⟨(by kernel_rfl), List.forall_mem_cons.2 ⟨(by kernel_rfl), List.forall_mem_cons.2 ⟨(by kernel_rfl), List.forall_mem_cons.2 ⟨(by kernel_rfl), List.forall_mem_cons.2 ⟨(by kernel_rfl), List.forall_mem_cons.2 ⟨(by kernel_rfl), List.forall_mem_cons.2 ⟨(by kernel_rfl), List.forall_mem_cons.2 ⟨(by kernel_rfl), List.forall_mem_cons.2 ⟨(by kernel_rfl), List.forall_mem_cons.2 ⟨(by kernel_rfl), List.forall_mem_cons.2 ⟨(by kernel_rfl), List.forall_mem_cons.2 ⟨(by kernel_rfl), List.forall_mem_cons.2 ⟨(by kernel_rfl), List.forall_mem_cons.2 ⟨(by kernel_rfl), List.forall_mem_cons.2 ⟨(by kernel_rfl), List.forall_mem_cons.2 ⟨(by kernel_rfl), List.forall_mem_cons.2 ⟨(by kernel_rfl), List.forall_mem_cons.2 ⟨(by kernel_rfl), List.forall_mem_cons.2 ⟨(by kernel_rfl), List.forall_mem_cons.2 ⟨(by kernel_rfl), List.forall_mem_cons.2 ⟨(by kernel_rfl), List.forall_mem_cons.2 ⟨(by kernel_rfl), List.forall_mem_cons.2 ⟨(by kernel_rfl), List.forall_mem_cons.2 ⟨(by kernel_rfl), List.forall_mem_cons.2 ⟨(by kernel_rfl), List.forall_mem_cons.2 ⟨(by kernel_rfl), List.forall_mem_cons.2 ⟨(by kernel_rfl), List.forall_mem_cons.2 ⟨(by kernel_rfl), List.forall_mem_cons.2 ⟨(by kernel_rfl), List.forall_mem_cons.2 ⟨(by kernel_rfl), List.forall_mem_cons.2 ⟨(by kernel_rfl), List.forall_mem_cons.2 ⟨(by kernel_rfl), (fun _ h => absurd h List.not_mem_nil)⟩⟩⟩⟩⟩⟩⟩⟩⟩⟩⟩⟩⟩⟩⟩⟩⟩⟩⟩⟩⟩⟩⟩⟩⟩⟩⟩⟩⟩⟩⟩⟩⟩⟩⟩⟩⟩⟩⟩⟩⟩⟩⟩⟩⟩⟩⟩⟩⟩⟩⟩⟩⟩⟩⟩⟩⟩⟩⟩⟩⟩⟩⟩⟩⟩⟩⟩⟩⟩⟩⟩⟩⟩⟩⟩⟩⟩⟩⟩⟩⟩⟩⟩⟩⟩⟩⟩⟩⟩⟩⟩⟩⟩⟩⟩⟩⟩⟩⟩⟩⟩⟩⟩⟩⟩⟩⟩⟩⟩⟩⟩⟩⟩⟩⟩⟩⟩⟩⟩⟩⟩⟩⟩⟩⟩⟩⟩⟩

theorem good : Good fix (lim tab1) := by
  refine ⟨fix_good, fun f d hd vs h r hr => ?_⟩
  exact denF_ok (fun _ _ _ _ q => q) (codes_ok (f, d) (get_trOf codes f d hd)) hr

theorem ok224 : PrimOk Tryz.prog 224 p224 := prim_of_lim all.tab fun vs h r h'' hp => by
  unfold p224 at hp
  split at hp
  · rename_i i o len cap ex a
    rw [F.ifb_eq] at hp
    split at hp
    · rename_i hc
      simp only [Bool.and_eq_true, Nat.ble_eq] at hc
      rw [ob_some] at hp
      obtain ⟨ob, h1, hp⟩ := hp
      cases ob with
      | map => cases hp
      | cells cs t ro =>
        simp only [ob_some, Option.some.injEq, Prod.mk.injEq] at hp
        obtain ⟨v, h2, rfl, rfl⟩ := hp
        obtain ⟨bs, q1, q2, q3, rfl⟩ := leK_ok h2
        refine ⟨Nat.le_refl _, fun _ => ⟨_, ?_, ⟨rfl, fun _ _ => rfl, fun _ => .inl rfl⟩⟩⟩
        have ha : a + 8 ≤ len := hc.1
        exact k224 good (c224 good (cells_of h1 (by omega) q2 q3) q1 (by omega) ha)
    · cases hp
  · cases hp

theorem ok239 : PrimOk Tryz.prog 239 p239 := prim_of_lim all.tab fun vs h r h'' hp => by
  unfold p239 at hp
  split at hp
  · rename_i i o len cap ex
    rw [F.ifb_eq] at hp
    split at hp
    · rename_i hc
      simp only [Bool.and_eq_true, Nat.ble_eq] at hc
      rw [ob_some] at hp
      obtain ⟨ob, h1, hp⟩ := hp
      cases ob with
      | map => cases hp
      | cells cs t ro =>
        simp only [ob_some, Option.some.injEq, Prod.mk.injEq] at hp
        obtain ⟨v, h2, rfl, rfl⟩ := hp
        obtain ⟨bs, q1, q2, q3, rfl⟩ := sumK_ok h2
        refine ⟨Nat.le_refl _, fun _ => ⟨_, ?_, ⟨rfl, fun _ _ => rfl, fun _ => .inl rfl⟩⟩⟩
        have := k239 good (c239 good (cap := cap) (ex := ex) (cells_of h1 hc.1 q2 q3) q1 (by omega))
        exact this.trans (by rw [Nat.zero_add]; rfl)
    · cases hp
  · cases hp

theorem putK_eq (n : Nat) : putK 8 n = by8 (put n 8) := by
  have e : ∀ k, (UInt8.ofNat (n / 256 ^ k % 256)).toNat = n / 256 ^ k % 256 := fun k => by rw [UInt8.toNat_ofNat']; omega
  simp only [put, by8, List.map_append, List.map_cons, List.map_nil, List.nil_append, List.cons_append, e]
  simp only [putK]
  have d : ∀ m, Nat.div m 256 = m / 256 := fun _ => rfl
  have m' : ∀ m, Nat.mod m 256 = m % 256 := fun _ => rfl
  simp only [d, m', Nat.div_div_eq_div_mul]
  simp

theorem ok188 : PrimOk Tryz.prog 188 p188 := prim_of_lim all.tab fun vs h r h'' hp => by
  unfold p188 at hp
  split at hp
  · rename_i n
    simp only [Option.some.injEq, Prod.mk.injEq] at hp
    obtain ⟨rfl, rfl⟩ := hp
    refine ⟨by simp only [top]; omega, fun hw => ?_⟩
    obtain ⟨h', q1, q2, q3, q4⟩ := c188 (cl := lim tab1) good (h := h) (n := n)
    exact ⟨h', k188 good q1, lean_top hw q2 q3 (by rw [q4, putK_eq])⟩
  · cases hp

theorem ok180 : PrimOk Tryz.prog 180 p180 := prim_of_lim all.tab fun vs h r h'' hp => by
  unfold p180 at hp
  split at hp
  · rename_i pi po a
    rw [ob_some] at hp
    obtain ⟨c, h1, hp⟩ := hp
    split at hp
    · rename_i li lo n lc e1
      rw [F.ifb_eq] at hp
      split at hp
      · rename_i ha
        rw [ob_some] at hp
        obtain ⟨c, h2, hp⟩ := hp
        split at hp
        · rename_i si so len sc e2
          rw [F.ifb_eq] at hp
          split at hp
          · rename_i hc
            simp only [Bool.and_eq_true, Nat.ble_eq, Nat.blt_eq] at hc ha
            simp only [ob_some, Option.some.injEq, Prod.mk.injEq] at hp
            obtain ⟨cs, h3, rfl, rfl⟩ := hp
            rw [F.cells_eq] at h3
            refine ⟨by simp only [top]; omega, fun hw => ?_⟩
            have hl : cs.length = len := by
              unfold cellsAt at h3
              split at h3
              · split at h3
                · cases h3; simp; omega
                · cases h3
              · cases h3
            refine ⟨_, k180 good (c180 good (cell1_ok h1) ha (cell1_ok h2) h3 hl (by omega) (by omega) hc.2.2), lean_top hw (((Ext.refl h).new _).new _) rfl ?_⟩
            simp [get_new]
          · cases hp
        · cases hp
      · cases hp
    · cases hp
  · cases hp

end Go.AM.T20
