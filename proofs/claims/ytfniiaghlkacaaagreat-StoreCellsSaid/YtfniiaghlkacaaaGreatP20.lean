/- What some functions of the program give. -/
import Derived.Test.YtfniiaghlkacaaaGreatT20K
namespace Go.AM.T20
open Go Go.AM Go.AM.G
set_option linter.unusedSimpArgs false

theorem out_ss (a b : SV) (h : H) : out [.s a, .s b] h = some (.tup [(false, [a]), (false, [b])], h) := nr rfl

/-- The number that bytes are, the least one first. -/
def le : List UInt8 → Nat
  | [] => 0
  | b :: l => b.toNat + 256 * le l

theorem le_append (l m : List UInt8) : le (l ++ m) = le l + 256 ^ l.length * le m := by
  induction l with
  | nil => simp [le]
  | cons b l ih => simp only [List.cons_append, le, ih, List.length_cons, Nat.pow_succ]; rw [Nat.mul_add, ← Nat.mul_assoc, Nat.mul_comm 256 (256 ^ l.length), Nat.add_assoc]

theorem le_lt (l : List UInt8) : le l < 256 ^ l.length := by
  induction l with
  | nil => simp [le]
  | cons b l ih => simp only [le, List.length_cons, Nat.pow_succ]; have := b.toNat_lt; omega

theorem b_or64 {x y j : Nat} (hx : x < 2 ^ j) (hxy : x + y * 2 ^ j < 18446744073709551616) : F.bin .or (.s (.int .u64 x)) (.s (.int .u64 ((y * 2 ^ j : Nat) : Int))) = some (.s (.int .u64 ((x + y * 2 ^ j : Nat) : Int))) := by
  simp only [F.bin_eq, bin, if_true, wrap_u64, IntKind.bits]
  congr 3
  have e1 : (BitVec.ofInt 64 (x : Int)).toNat = x := by simp [BitVec.toNat_ofInt]; omega
  have e2 : (BitVec.ofInt 64 ((y * 2 ^ j : Nat) : Int)).toNat = y * 2 ^ j := by
    rw [BitVec.toNat_ofInt]
    have : ((y * 2 ^ j : Nat) : Int) % ((2 ^ 64 : Nat) : Int) = ((y * 2 ^ j : Nat) : Int) := Int.emod_eq_of_lt (by omega) (by omega)
    rw [this]; rfl
  change (((BitVec.ofInt 64 (x : Int)) ||| (BitVec.ofInt 64 ((y * 2 ^ j : Nat) : Int)) : BitVec 64).toNat : Int) % 18446744073709551616 = _
  rw [BitVec.toNat_or, e1, e2]
  have := Nat.two_pow_add_eq_or_of_lt hx y
  rw [Nat.or_comm, Nat.mul_comm y, ← this]
  rw [Nat.mul_comm y] at hxy
  omega

variable {fx : Fx} {cl : Cl}

theorem c224 (w : Good fx cl) {h : H} {i o len cap : Nat} {ex : Bool} {bs : List UInt8} {at' : Nat} (hc : cellsAt h i (o + at') 8 = some (by8 bs)) (hl : bs.length = 8) (hL : len < 1099511627776) (ha : at' + 8 ≤ len) :
    g224 fx cl (.s (.sl (some (i, o)) len cap ex 1)) (.s (.int .i64 at')) h = some (.tup [(false, [.int .u64 (le bs)]), (false, [.int .i64 0])], h) := by
  unfold g224
  simp (disch := omega) only [b_lss, ob_s, gd_ff, len_sl, b_sub, b_gtr, wrap_i64]
  have h1 : decide ((at' : Int) < 0) = false := by simp
  have h2 : decide ((len : Int) - 8 < at') = false := by simp; omega
  simp only [h1, h2, gd_ff, ob_s, len_sl, cnd_b]
  simp (disch := omega) only [b_sub, b_gtr, ob_s, wrap_i64, h2]
  simp only [show pv (.pick (.c (.s (.bool false))) (.c (.s (.bool true))) (.c (.s (.bool false)))) = some (.s (.bool false)) from rfl, ob_s, cnd_b, Bool.false_eq_true, if_false, letJ_eq]
  refine w.fix.ind (m := 8) (P := fun r => r = some (.tup [(false, [.int .u64 (le bs)]), (false, [.int .i64 0])], h))
    (fun m s h' => h' = h ∧ ∃ j : Nat, j ≤ 8 ∧ m = 8 - j ∧ s = (.s (.int .u64 (le (bs.take j))), .s (.int .i64 j))) ?_ (by omega) ⟨rfl, 0, by omega, rfl, rfl⟩
  rintro rec m s h' ⟨rfl, j, hj, rfl, rfl⟩ ih
  simp only [b_lss, ob_s, cnd_b]
  by_cases hj8 : j = 8
  · subst hj8
    rw [show bs.take 8 = bs by rw [← hl, List.take_length]]
    simp [out_ss]
  · have hlt : (decide ((j : Int) < 8)) = true := by simp; omega
    rw [hlt, if_pos rfl]
    have hk : j < bs.length := by omega
    have hb : bs[j]? = some bs[j] := List.getElem?_eq_getElem hk
    have hb3 := (bs[j]).toNat_lt
    simp (disch := omega) only [b_add, b_mul, ob_s, wrap_i64]
    rw [idxa_sl (by omega) (by omega)]
    simp only [ob_s]
    rw [show o + ((at' : Int) + (j : Int)).toNat * 1 = o + at' + j by omega, ld_byte hc (by omega) hb]
    simp only [ob_s, conv_i, wrap_u64]
    rw [b_shl _ _ _ _ (by omega)]
    simp only [ob_s, wrap_u64, IntKind.bits]
    have e1 : ((8 * (j : Int)) % 18446744073709551616).toNat = 8 * j := by omega
    have e2 : min (8 * j) 64 = 8 * j := by omega
    have e3 : ((bs[j]).toNat : Int) % 18446744073709551616 = (bs[j]).toNat := by omega
    have hlen : (bs.take j).length = j := by simp; omega
    have hlt := le_lt (bs.take j)
    rw [hlen, show (256 : Nat) = 2 ^ 8 by rfl, ← Nat.pow_mul] at hlt
    have hp : 2 ^ (8 * j) * 256 ≤ 2 ^ 64 := by
      rw [show (256 : Nat) = 2 ^ 8 by rfl, ← Nat.pow_add]
      exact Nat.pow_le_pow_right (by omega) (by omega)
    have hbig : le (bs.take j) + (bs[j]).toNat * 2 ^ (8 * j) < 18446744073709551616 := by
      have : (bs[j]).toNat * 2 ^ (8 * j) ≤ 255 * 2 ^ (8 * j) := Nat.mul_le_mul_right _ (by omega)
      omega
    have e4 : ((bs[j]).toNat : Int) * 2 ^ (8 * j) % 18446744073709551616 = (((bs[j]).toNat * 2 ^ (8 * j) : Nat) : Int) := by
      have e : ((bs[j]).toNat : Int) * 2 ^ (8 * j) = (((bs[j]).toNat * 2 ^ (8 * j) : Nat) : Int) := by push_cast; rfl
      rw [e]
      exact Int.emod_eq_of_lt (by omega) (by omega)
    rw [e1, e2, e3, e4, b_or64 hlt hbig]
    simp only [ob_s]
    refine ih (8 - (j + 1)) _ _ (by omega) ⟨rfl, j + 1, by omega, rfl, ?_⟩
    have e5 : bs.take (j + 1) = bs.take j ++ [bs[j]] := by
      rw [List.take_add_one]
      rw [hb]; rfl
    rw [e5, le_append, hlen]
    simp only [le, Nat.mul_zero, Nat.add_zero]
    rw [show (256 : Nat) = 2 ^ 8 by rfl, ← Nat.pow_mul, Nat.mul_comm (2 ^ (8 * j))]
    rfl

/-! ### log.Sum -/

def sumN : Nat → List UInt8 → Nat
  | _, [] => 0
  | k, b :: l => (k + 1) * (b.toNat + 1) + sumN (k + 1) l

theorem sumN_append (l m : List UInt8) : ∀ k, sumN k (l ++ m) = sumN k l + sumN (k + l.length) m := by
  induction l with
  | nil => intro k; simp [sumN]
  | cons b l ih => intro k; simp only [List.cons_append, sumN, ih, List.length_cons]; rw [show k + 1 + l.length = k + (l.length + 1) by omega, Nat.add_assoc]

theorem c239 (w : Good fx cl) {h : H} {i o len cap : Nat} {ex : Bool} {bs : List UInt8} (hc : cellsAt h i o len = some (by8 bs)) (hl : bs.length = len) (hL : len < 900000) :
    g239 fx cl (.s (.sl (some (i, o)) len cap ex 1)) h = some (.s (.int .u32 (((sumN 0 bs : Nat) : Int) % 4294967296)), h) := by
  unfold g239
  simp only [len_sl, ob_s, letJ_eq, out_1]
  refine w.fix.ind (m := len) (P := fun r => r = some (.s (.int .u32 (((sumN 0 bs : Nat) : Int) % 4294967296)), h))
    (fun m s h' => h' = h ∧ ∃ j : Nat, j ≤ len ∧ m = len - j ∧ s = (.s (.int .u32 (((sumN 0 (bs.take j) : Nat) : Int) % 4294967296)), .s (.int .i64 j))) ?_ (by omega) ⟨rfl, 0, by omega, rfl, rfl⟩
  rintro rec m s h' ⟨rfl, j, hj, rfl, rfl⟩ ih
  simp only [b_lss, ob_s, cnd_b]
  by_cases hj8 : j = len
  · subst hj8
    rw [← hl, List.take_length]
    simp
  · have hlt : (decide ((j : Int) < len)) = true := by simp; omega
    rw [hlt, if_pos rfl]
    have hk : j < bs.length := by omega
    have hb : bs[j]? = some bs[j] := List.getElem?_eq_getElem hk
    have hb3 := (bs[j]).toNat_lt
    rw [idxa_sl (by omega) (by omega)]
    simp only [ob_s]
    rw [show (j : Int).toNat * 1 = j by omega, ld_byte hc (by omega) hb]
    have e1 : IntKind.i64.wrap ((j : Int) + 1) = (j : Int) + 1 := wrap_i64 (by omega) (by omega)
    simp only [b_add, b_mul, ob_s, e1, conv_i, wrap_u32]
    refine ih (len - (j + 1)) _ _ (by omega) ⟨rfl, j + 1, by omega, rfl, ?_⟩
    have e5 : bs.take (j + 1) = bs.take j ++ [bs[j]] := by rw [List.take_add_one, hb]; rfl
    have e6 : (bs.take j).length = j := by simp; omega
    have e7 : sumN 0 (bs.take (j + 1)) = sumN 0 (bs.take j) + (j + 1) * ((bs[j]).toNat + 1) := by rw [e5, sumN_append, e6]; simp [sumN]
    rw [e7]
    push_cast
    have A : ∀ x y z : Int, (x % 4294967296 + (y % 4294967296 * ((z % 4294967296 + 1) % 4294967296)) % 4294967296) % 4294967296 = (x + y * (z + 1)) % 4294967296 := by
      intro x y z
      rw [Int.emod_add_emod z, ← Int.mul_emod, ← Int.add_emod]
    rw [A]

/-! ### slices.Clone of bytes -/

theorem len_by8 (bs : List UInt8) : (by8 bs).length = bs.length := by simp [by8]

theorem c79 {h : H} {i o len cap : Nat} {ex : Bool} {cs : List SV} (hc : cellsAt h i o len = some cs) (hl : cs.length = len) (h0 : 0 < len) (hL : len ≤ 1099511627264) (hi : i < h.nx) :
    g79 fx cl (.s (.sl (some (i, o)) len cap ex 1)) h = some (.s (.sl (some (h.nx + 1, 0)) len len false 1), (h.new (.cells [] 5 false)).new (.cells cs 5 false)) := by
  unfold g79
  rw [show pv (.eqv .sl false (.c (.s (.sl (some (i, o)) len cap ex 1))) (.c (.s (.sl .none 0 0 true 1)))) = some (.s (.bool false)) from rfl]
  simp only [ob_s, cnd_b, Bool.false_eq_true, if_false]
  rw [mk_bslice (cs := []) rfl rfl]
  simp only [obh_s]
  have h1 : cellsAt (h.new (.cells [] 5 false)) i o (len * 1) = some cs := by
    rw [cellsAt_ext ((Ext.refl h).new _) hi, Nat.mul_one]; exact hc
  rw [app_full (len := 0) (cs := []) (t' := 5) (ro := false) (src_some h1) rfl (by omega) (by omega) (by simp [most]; omega) (by simp [most]; omega) (by rw [get_new, if_pos rfl]) (by simp)]
  simp

/-! ### Disk.Read -/

theorem c180 (w : Good fx cl) {h : H} {pi po li lo n lc si so len sc : Nat} {e1 e2 : Bool} {cs : List SV} {at' : Nat}
    (hd : cellsAt h pi po 1 = some [.sl (some (li, lo)) n lc e1 1]) (ha : at' < n) (hs : cellsAt h li (lo + at') 1 = some [.sl (some (si, so)) len sc e2 1])
    (hc : cellsAt h si so len = some cs) (hl : cs.length = len) (h0 : 0 < len) (hL : len ≤ 1099511627264) (hi : si < h.nx) :
    g180 fx cl (.s (.ptr (some (pi, po)))) (.s (.int .i64 at')) h = some (.tup [(false, [.sl (some (h.nx + 1, 0)) len len false 1]), (false, [.int .i64 0])], (h.new (.cells [] 5 false)).new (.cells cs 5 false)) := by
  unfold g180
  rw [show pv (.eqv .ptr false (.c (.s (.ptr (some (pi, po))))) (.c (.s (.ptr .none)))) = some (.s (.bool false)) from rfl]
  simp only [ob_s, gd_ff, b_lss]
  have q1 : decide ((at' : Int) < 0) = false := by simp
  have q2 : decide ((n : Int) ≤ at') = false := by simp; omega
  have q3 : pv (.pick (.c (.s (.bool false))) (.c (.s (.bool true))) (.c (.s (.bool false)))) = some (.s (.bool false)) := rfl
  have q4 : nilck (.s (.ptr (some (pi, po)))) = some (.s (.ptr (some (pi, po)))) := rfl
  have q5 : fld 0 (.s (.ptr (some (pi, po)))) = some (.s (.ptr (some (pi, po)))) := rfl
  simp only [q1, q3, ob_s, gd_ff, q4, q5, ld_1 hd, len_sl, b_geq, q2, cnd_b, Bool.false_eq_true, if_false]
  rw [idxa_sl (by omega) (by omega)]
  simp only [ob_s]
  rw [show (at' : Int).toNat * 1 = at' by omega, ld_1 hs]
  simp only [ob_s]
  rw [k79 w (c79 hc hl h0 hL hi)]
  simp only [obh_s, out_ss]

/-! ### sip.Put -/

/-- A number's bytes, the least one first. -/
def put (n : Nat) : Nat → List UInt8
  | 0 => []
  | k + 1 => put n k ++ [UInt8.ofNat (n / 256 ^ k % 256)]

theorem put_length (n k : Nat) : (put n k).length = k := by
  induction k with
  | zero => rfl
  | succ k ih => simp [put, ih]

/-- The slice behind some rounds. -/
def putS (x : Nat) : Nat → AV
  | 0 => .s (.sl .none 0 0 true 1)
  | j + 1 => .s (.sl (some (x + 2 * j + 1, 0)) (j + 1) (j + 1) false 1)

theorem c188 (w : Good fx cl) {h : H} {n : Nat} :
    ∃ h', g188 fx cl (.s (.int .u64 n)) h = some (.s (.sl (some (h.nx + 15, 0)) 8 8 false 1), h') ∧ Ext h h' ∧ h'.nx = h.nx + 16 ∧ h'.get (h.nx + 15) = some (.cells (by8 (put n 8)) 5 false) := by
  unfold g188
  simp only [letJ_eq, out_1]
  refine w.fix.ind (m := 8) (P := fun r => ∃ h', r = some (.s (.sl (some (h.nx + 15, 0)) 8 8 false 1), h') ∧ Ext h h' ∧ h'.nx = h.nx + 16 ∧ h'.get (h.nx + 15) = some (.cells (by8 (put n 8)) 5 false))
    (fun m s h' => Ext h h' ∧ ∃ j : Nat, j ≤ 8 ∧ m = 8 - j ∧ s = (putS h.nx j, .s (.int .i64 j)) ∧ h'.nx = h.nx + 2 * j ∧ ∀ k, j = k + 1 → h'.get (h.nx + 2 * k + 1) = some (.cells (by8 (put n j)) 5 false)) ?_ (by omega)
    ⟨Ext.refl h, 0, by omega, rfl, rfl, rfl, fun k hk => by omega⟩
  rintro rec m s h' ⟨he, j, hj, rfl, rfl, hx, hg⟩ ih
  simp only [b_lss, ob_s, cnd_b]
  by_cases hj8 : j = 8
  · subst hj8
    simp only [show decide (((8 : Nat) : Int) < 8) = false by decide, Bool.false_eq_true, if_false]
    exact ⟨h', rfl, he, by omega, hg 7 rfl⟩
  · have hlt : (decide ((j : Int) < 8)) = true := by simp; omega
    rw [hlt, if_pos rfl]
    have e1 : IntKind.i64.wrap (8 * (j : Int)) = 8 * (j : Int) := wrap_i64 (by omega) (by omega)
    have e2 : IntKind.i64.wrap ((j : Int) + 1) = (j : Int) + 1 := wrap_i64 (by omega) (by omega)
    simp only [b_add, b_mul, ob_s, e1, e2, conv_i, wrap_u64]
    rw [b_shr _ _ _ _ (by omega)]
    simp only [ob_s, conv_i, wrap_u8, IntKind.bits]
    rw [show min ((8 * (j : Int)) % 18446744073709551616).toNat 64 = 8 * j by omega]
    have e3 : ((n : Int).fdiv (2 ^ (8 * j))) % 256 = ((UInt8.ofNat (n / 256 ^ j % 256)).toNat : Int) := by
      have p : (2 : Int) ^ (8 * j) = ((256 ^ j : Nat) : Int) := by
        rw [Int.natCast_pow, Int.pow_mul]; rfl
      rw [p, Int.fdiv_eq_ediv_of_nonneg _ (Int.natCast_nonneg _)]
      rw [UInt8.toNat_ofNat', ← Int.natCast_ediv]
      omega
    rw [e3]
    rw [mk_bslice (cs := [.int .u8 (UInt8.ofNat (n / 256 ^ j % 256)).toNat]) rfl rfl]
    simp only [obh_s]
    have src : srcCells (h'.new (.cells [.int .u8 (UInt8.ofNat (n / 256 ^ j % 256)).toNat] 5 false)) 1 (.s (.sl (some (h'.nx, 0)) 1 1 true 1)) = some [.int .u8 (UInt8.ofNat (n / 256 ^ j % 256)).toNat] :=
      src_some (cellsAt_all (by rw [get_new, if_pos rfl]) rfl)
    cases j with
    | zero =>
      rw [show putS h.nx 0 = .s (.sl .none 0 0 true 1) from rfl]
      rw [app_nil (n := 1) src rfl rfl (by omega) (by decide) (by decide)]
      simp only [obh_s]
      refine ih 7 _ _ (by omega) ⟨(he.new _).new _, 1, by omega, rfl, ?_, by simp only [nx_new]; omega, fun k hk => ?_⟩
      · simp only [nx_new, hx, putS]; rfl
      · obtain rfl : k = 0 := by omega
        rw [get_new, if_pos (by simp only [nx_new, hx])]
        rfl
    | succ j =>
      rw [show putS h.nx (j + 1) = .s (.sl (some (h.nx + 2 * j + 1, 0)) (j + 1) (j + 1) false 1) from rfl]
      have hg := hg j rfl
      have hlen : (by8 (put n (j + 1))).length = j + 1 := by rw [len_by8, put_length]
      rw [app_more (n := 1) (cs := by8 (put n (j + 1))) src rfl rfl (by omega) (by simp [most]; omega) (by simp [most]; omega) (by rw [get_new, if_neg (by omega)]; exact hg) (by omega)]
      simp only [obh_s]
      refine ih (8 - (j + 2)) _ _ (by omega) ⟨((he.new _).del (by omega)).new _, j + 2, by omega, rfl, ?_, by simp only [nx_new, nx_del]; omega, fun k hk => ?_⟩
      · simp only [nx_new, nx_del, hx, putS]; rfl
      · obtain rfl : k = j + 1 := by omega
        rw [get_new, if_pos (by simp only [nx_new, nx_del, hx])]
        rw [List.drop_zero, Nat.mul_one, List.take_of_length_le (by omega)]
        simp only [put, by8, List.map_append, List.map_cons, List.map_nil]

end Go.AM.T20
