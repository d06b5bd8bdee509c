/- Laws of the shallow reading's operations, and of its loops. -/
import Derived.Test.YtfniiaghlkacaaaGreatGm5
namespace Go.AM.G
open Go Go.AM
set_option linter.unusedSimpArgs false

/-- So that the simplifier keeps a proof of the step. -/
theorem nr {α : Type} {a b : α} (h : a = b) : a = b := h

@[simp] theorem ob_s {α β : Type} (a : α) (f : α → Option β) : F.ob (some a) f = f a := nr rfl
@[simp] theorem ob_n {α β : Type} (f : α → Option β) : F.ob none f = none := nr rfl
@[simp] theorem obh_s {β : Type} (v : AV) (h : H) (f : AV → H → Option β) : obh (some (v, h)) f = f v h := nr rfl
@[simp] theorem obh_n {β : Type} (f : AV → H → Option β) : obh none f = none := nr rfl
@[simp] theorem cnd_b {β : Type} (t : Bool) (x y : Option β) : cnd (.s (.bool t)) x y = if t then x else y := nr (by cases t <;> rfl)
@[simp] theorem gd_tt {α : Type} (x y : Option α) : gd (.s (.bool true)) true x y = x := nr rfl
@[simp] theorem gd_tf {α : Type} (x y : Option α) : gd (.s (.bool true)) false x y = y := nr rfl
@[simp] theorem gd_ft {α : Type} (x y : Option α) : gd (.s (.bool false)) true x y = y := nr rfl
@[simp] theorem gd_ff {α : Type} (x y : Option α) : gd (.s (.bool false)) false x y = x := nr rfl
@[simp] theorem gd_n {α : Type} (b : Bool) (x y : Option α) : gd nought b x y = y := nr rfl
@[simp] theorem letJ_eq {σ : Type} (j : σ → H → R) (f : (σ → H → R) → R) : letJ j f = f j := nr rfl
@[simp] theorem out_1 (v : AV) (h : H) : out [v] h = some (v, h) := nr rfl

theorem fixN_ind {σ : Type} {F : (σ → H → R) → σ → H → R} {P : R → Prop} (I : Nat → σ → H → Prop)
    (step : ∀ rec m s h, I m s h → (∀ m' s' h', m' < m → I m' s' h' → P (rec s' h')) → P (F rec s h)) : ∀ n m s h, m < n → I m s h → P (fixN F n s h)
  | 0, m, s, h, hm, _ => by omega
  | n + 1, m, s, h, hm, hi => step (fixN F n) m s h hi fun m' s' h' h1 h2 => fixN_ind I step n m' s' h' (by omega) h2

theorem fix_ind {σ : Type} {F : (σ → H → R) → σ → H → R} {P : R → Prop} (I : Nat → σ → H → Prop)
    (step : ∀ rec m s h, I m s h → (∀ m' s' h', m' < m → I m' s' h' → P (rec s' h')) → P (F rec s h)) {m : Nat} {s : σ} {h : H} (hm : m < 1000000) (hi : I m s h) : P (fix σ F s h) :=
  fixN_ind I step fuel m s h (by simpa [fuel] using hm) hi

/-- Loops may be shown by an invariant. -/
structure FixOk (fx : Fx) : Prop where
  ind : ∀ {σ : Type} {F : (σ → H → R) → σ → H → R} {P : R → Prop} (I : Nat → σ → H → Prop),
    (∀ rec m s h, I m s h → (∀ m' s' h', m' < m → I m' s' h' → P (rec s' h')) → P (F rec s h)) → ∀ {m : Nat} {s : σ} {h : H}, m < 1000000 → I m s h → P (fx σ F s h)

theorem fix_good : FixOk fix := ⟨fun I step _ _ _ hm hi => fix_ind I step hm hi⟩

/-! ### numbers -/

theorem wrap_i64 {n : Int} (h1 : -9223372036854775808 ≤ n) (h2 : n < 9223372036854775808) : IntKind.i64.wrap n = n := by
  simp only [IntKind.wrap, IntKind.bits, IntKind.signed, Bool.true_and, decide_eq_true_eq, ge_iff_le]
  rw [show (2 : Int) ^ 64 = 18446744073709551616 by decide, show (2 : Int) ^ (64 - 1) = 9223372036854775808 by decide]
  split <;> omega
theorem wrap_u8 {n : Int} : IntKind.u8.wrap n = n % 256 := by
  simp [IntKind.wrap, IntKind.bits, IntKind.signed]
theorem wrap_u32 {n : Int} : IntKind.u32.wrap n = n % 4294967296 := by
  simp [IntKind.wrap, IntKind.bits, IntKind.signed]
theorem wrap_u64 {n : Int} : IntKind.u64.wrap n = n % 18446744073709551616 := by
  simp [IntKind.wrap, IntKind.bits, IntKind.signed]

theorem b_add (k : IntKind) (a b : Int) : F.bin .add (.s (.int k a)) (.s (.int k b)) = some (.s (.int k (k.wrap (a + b)))) := by simp [F.bin_eq, bin]
theorem b_sub (k : IntKind) (a b : Int) : F.bin .sub (.s (.int k a)) (.s (.int k b)) = some (.s (.int k (k.wrap (a - b)))) := by simp [F.bin_eq, bin]
theorem b_mul (k : IntKind) (a b : Int) : F.bin .mul (.s (.int k a)) (.s (.int k b)) = some (.s (.int k (k.wrap (a * b)))) := by simp [F.bin_eq, bin]
theorem b_lss (k : IntKind) (a b : Int) : F.bin .lss (.s (.int k a)) (.s (.int k b)) = some (.s (.bool (decide (a < b)))) := by simp [F.bin_eq, bin]
theorem b_leq (k : IntKind) (a b : Int) : F.bin .leq (.s (.int k a)) (.s (.int k b)) = some (.s (.bool (decide (a ≤ b)))) := by simp [F.bin_eq, bin]
theorem b_gtr (k : IntKind) (a b : Int) : F.bin .gtr (.s (.int k a)) (.s (.int k b)) = some (.s (.bool (decide (b < a)))) := by simp [F.bin_eq, bin]
theorem b_geq (k : IntKind) (a b : Int) : F.bin .geq (.s (.int k a)) (.s (.int k b)) = some (.s (.bool (decide (b ≤ a)))) := by simp [F.bin_eq, bin]
theorem b_eql (k : IntKind) (a b : Int) : F.bin .eql (.s (.int k a)) (.s (.int k b)) = some (.s (.bool (decide (a = b)))) := by
  simp only [F.bin_eq, bin, if_true]; rfl
theorem b_neq (k : IntKind) (a b : Int) : F.bin .neq (.s (.int k a)) (.s (.int k b)) = some (.s (.bool (!decide (a = b)))) := by
  simp only [F.bin_eq, bin, if_true]; rfl
theorem b_shl (k k' : IntKind) (a b : Int) (h : 0 ≤ b) : F.bin .shl (.s (.int k a)) (.s (.int k' b)) = some (.s (.int k (k.wrap (a * 2 ^ min b.toNat k.bits)))) := by simp [F.bin_eq, bin, Int.not_lt.2 h]
theorem b_shr (k k' : IntKind) (a b : Int) (h : 0 ≤ b) : F.bin .shr (.s (.int k a)) (.s (.int k' b)) = some (.s (.int k (a.fdiv (2 ^ min b.toNat k.bits)))) := by simp [F.bin_eq, bin, Int.not_lt.2 h]
theorem conv_i (k k' : IntKind) (n : Int) : conv k (.s (.int k' n)) = some (.s (.int k (k.wrap n))) := nr rfl

/-! ### slices of bytes -/

def by8 (l : List UInt8) : List SV := l.map fun b => .int .u8 b.toNat

theorem len_sl (n : Nat) (a : Option (Nat × Nat)) (len cap : Nat) (ex : Bool) (sz : Nat) : pv (.len (.sl n) (.c (.s (.sl a len cap ex sz)))) = some (.s (.int .i64 len)) := nr rfl

theorem idxa_sl {sz i o len cap : Nat} {ex : Bool} {k : IntKind} {n : Int} (h1 : 0 ≤ n) (h2 : n < len) : idxa (.sl sz) (.s (.sl (some (i, o)) len cap ex sz)) (.s (.int k n)) = some (.s (.ptr (some (i, o + n.toNat * sz)))) := by
  rw [idxa_eq]
  simp [pureOp, h1, h2]

theorem ld_1 {i o : Nat} {h : H} {v : SV} (hc : cellsAt h i o 1 = some [v]) : ld false 1 (.s (.ptr (some (i, o)))) h = some (.s v) := by
  rw [ld_eq]; simp [readOp, hc]

theorem cells_sub {h : H} {i o n : Nat} {cs : List SV} (hc : cellsAt h i o n = some cs) {k m : Nat} (hk : k + m ≤ n) : cellsAt h i (o + k) m = some ((cs.drop k).take m) := by
  unfold cellsAt at hc ⊢
  split at hc
  · split at hc
    · cases hc
      rw [if_pos (by omega)]
      congr 1
      rw [List.drop_take, List.take_take, List.drop_drop, Nat.min_eq_left (by omega)]
    · cases hc
  · cases hc

theorem ld_byte {h : H} {i o n : Nat} {bs : List UInt8} (hc : cellsAt h i o n = some (by8 bs)) {k : Nat} {b : UInt8} (hk : k < n) (hb : bs[k]? = some b) : ld false 1 (.s (.ptr (some (i, o + k)))) h = some (.s (.int .u8 b.toNat)) := by
  refine ld_1 ?_
  rw [cells_sub hc (by omega)]
  congr 1
  rw [F.take1_drop]
  simp [by8, hb]

end Go.AM.G
