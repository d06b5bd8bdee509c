/- The relation between the abstract heap and the model's world. -/
import Derived.Test.YtfniiaghlkacaaaGreatAm1
import Derived.Calls
import Derived.Laws.Sem
import Derived.Laws.Cells
import Derived.ChangeKeysEq
namespace Go.AM

/-! ### numbers' maps -/

theorem Tr.get_putF {α : Type} (x : Option α) : ∀ (f : Nat) (t : Tr α) (n m : Nat), n < f → (Tr.putF x f t n).get m = if m = n then x else t.get m
  | 0, _, _, _, h => by omega
  | f + 1, .nil, 0, m, _ => by cases m <;> simp [Tr.putF, Tr.get]
  | f + 1, .node l v r, 0, m, _ => by cases m <;> simp [Tr.putF, Tr.get]
  | f + 1, .nil, n + 1, m, h => by
    have ih := fun k => Tr.get_putF x f .nil (n / 2) k (by omega)
    by_cases hn : n % 2 = 0 <;> simp only [Tr.putF, hn, if_true, if_false] <;> cases m with
    | zero => simp [Tr.get]
    | succ m =>
      simp only [Tr.get]
      by_cases hm : m % 2 = 0 <;> simp only [hm, if_true, if_false, ih] <;> simp only [Tr.get, Nat.add_right_cancel_iff] <;> (repeat' split) <;> first | rfl | omega
  | f + 1, .node l v r, n + 1, m, h => by
    have ih := fun t k => Tr.get_putF x f t (n / 2) k (by omega)
    by_cases hn : n % 2 = 0 <;> simp only [Tr.putF, hn, if_true, if_false] <;> cases m with
    | zero => simp [Tr.get]
    | succ m =>
      simp only [Tr.get]
      by_cases hm : m % 2 = 0 <;> simp only [hm, if_true, if_false, ih] <;> simp only [Nat.add_right_cancel_iff] <;> (repeat' split) <;> first | rfl | omega

theorem Tr.get_put {α : Type} (t : Tr α) (n m : Nat) (x : Option α) : (t.put n x).get m = if m = n then x else t.get m := Tr.get_putF x (n + 1) t n m (by omega)

theorem Tr.get_perf {α : Type} : ∀ (d n : Nat), (Tr.perf d : Tr α).get n = none
  | 0, n => by cases n <;> rfl
  | d + 1, 0 => rfl
  | d + 1, n + 1 => by simp only [Tr.perf, Tr.get]; split <;> exact Tr.get_perf d _

theorem H.get_set (h : H) (i j : Nat) (o : AO) : (h.set i o).get j = if j = i then some o else h.get j := Tr.get_put ..
theorem H.get_del (h : H) (i j : Nat) : (h.del i).get j = if j = i then none else h.get j := Tr.get_put ..
theorem H.get_new (h : H) (j : Nat) (o : AO) : (h.new o).get j = if j = h.nx then some o else h.get j := Tr.get_put ..
@[simp] theorem H.nx_set (h : H) (i : Nat) (o : AO) : (h.set i o).nx = h.nx := rfl
@[simp] theorem H.nx_del (h : H) (i : Nat) : (h.del i).nx = h.nx := rfl
@[simp] theorem H.nx_new (h : H) (o : AO) : (h.new o).nx = h.nx + 1 := rfl

/-! ### lists, one by one -/

inductive All2 {α β : Type} (R : α → β → Prop) : List α → List β → Prop
  | nil : All2 R [] []
  | cons {a b as bs} : R a b → All2 R as bs → All2 R (a :: as) (b :: bs)

namespace All2
variable {α β : Type} {R S : α → β → Prop}
theorem mono (f : ∀ a b, R a b → S a b) : ∀ {as bs}, All2 R as bs → All2 S as bs
  | _, _, .nil => .nil
  | _, _, .cons h t => .cons (f _ _ h) (t.mono f)
theorem length : ∀ {as : List α} {bs : List β}, All2 R as bs → as.length = bs.length
  | _, _, .nil => rfl
  | _, _, .cons _ t => by simp [t.length]
theorem get : ∀ {as : List α} {bs : List β}, All2 R as bs → ∀ (i : Nat) (a : α), as[i]? = some a → ∃ b, bs[i]? = some b ∧ R a b
  | _, _, .nil, i, a, h => by simp at h
  | _, _, .cons h t, 0, a, e => by simp at e; subst e; exact ⟨_, rfl, h⟩
  | _, _, .cons h t, i + 1, a, e => by simpa using t.get i a (by simpa using e)
theorem of_get : ∀ {as : List α} {bs : List β}, as.length = bs.length → (∀ (i : Nat) (a : α) (b : β), as[i]? = some a → bs[i]? = some b → R a b) → All2 R as bs
  | [], [], _, _ => .nil
  | a :: as, b :: bs, hl, h => .cons (h 0 a b rfl rfl) (of_get (by simpa using hl) fun i a b ha hb => h (i + 1) a b (by simpa using ha) (by simpa using hb))
  | [], _ :: _, hl, _ => by simp at hl
  | _ :: _, [], hl, _ => by simp at hl
theorem append {as as' : List α} {bs bs' : List β} (h : All2 R as bs) (h' : All2 R as' bs') : All2 R (as ++ as') (bs ++ bs') := by
  induction h with
  | nil => exact h'
  | cons h _ ih => exact .cons h ih
theorem take {as : List α} {bs : List β} (h : All2 R as bs) : ∀ n, All2 R (as.take n) (bs.take n) := by
  induction h with
  | nil => intro n; simp; exact .nil
  | cons h _ ih => intro n; cases n with
    | zero => exact .nil
    | succ n => exact .cons h (ih n)
theorem drop {as : List α} {bs : List β} (h : All2 R as bs) : ∀ n, All2 R (as.drop n) (bs.drop n) := by
  induction h with
  | nil => intro n; simp; exact .nil
  | cons h t ih => intro n; cases n with
    | zero => exact .cons h t
    | succ n => exact ih n
theorem one {a : α} {b : β} (h : R a b) : All2 R [a] [b] := .cons h .nil
theorem one_inv {a : α} {bs : List β} (h : All2 R [a] bs) : ∃ b, bs = [b] ∧ R a b := by
  cases h with
  | cons h t => cases t; exact ⟨_, rfl, h⟩
theorem map_left {γ : Type} (f : γ → α) {gs : List γ} {bs : List β} : All2 R (gs.map f) bs ↔ All2 (fun g b => R (f g) b) gs bs := by
  induction gs generalizing bs with
  | nil => constructor <;> intro h <;> cases h <;> exact .nil
  | cons g gs ih => constructor <;> intro h <;> cases h with
    | cons a b => exact .cons a (by first | exact ih.1 b | exact ih.2 b)
theorem map_right {γ : Type} (f : γ → β) {as : List α} {gs : List γ} : All2 R as (gs.map f) ↔ All2 (fun a g => R a (f g)) as gs := by
  induction gs generalizing as with
  | nil => constructor <;> intro h <;> cases h <;> exact .nil
  | cons g gs ih => constructor <;> intro h <;> cases h with
    | cons a b => exact .cons a (by first | exact ih.1 b | exact ih.2 b)
theorem replicate {a : α} {b : β} (h : R a b) : ∀ n, All2 R (List.replicate n a) (List.replicate n b)
  | 0 => .nil
  | n + 1 => .cons h (replicate h n)
theorem flatten {as : List (List α)} {bs : List (List β)} (h : All2 (All2 R) as bs) : All2 R as.flatten bs.flatten := by
  induction h with
  | nil => exact .nil
  | cons h _ ih => simpa using h.append ih
end All2

/-! ### values -/

/-- Where an abstract block lies: the block, the shift, how many cells the block has. -/
structure Loc where
  b : Nat
  s : Nat
  n : Nat

abbrev Ren := Nat → Option Loc

def PRel (ρ : Ren) (a : Nat × Nat) (x : Value) : Prop := ∃ L, ρ a.1 = some L ∧ x = .pointer (some ⟨L.b, L.s + a.2, none⟩)

def SRel (ρ : Ren) : SV → Value → Prop
  | .int k n, x => x = .int k n
  | .bool b, x => x = .bool b
  | .str s, x => x = .string ⟨s.toArray⟩
  | .ptr none, x => x = .pointer none
  | .ptr (some a), x => PRel ρ a x
  | .sl none len cap ex _, x => len = 0 ∧ cap = 0 ∧ ex = true ∧ x = .slice none 0 0
  | .sl (some (i, o)) len cap ex sz, x => ∃ L o' c', ρ i = some L ∧ x = .slice (some ⟨L.b, o', none⟩) len c' ∧ len ≤ cap ∧ cap ≤ c' ∧ (ex = true → c' = cap) ∧ (c' = 0 ∨ (o' = L.s + o ∧ (ex = true ∨ o' + c' * sz ≤ L.n)))
  | .map none, x => x = .map none
  | .map (some i), x => ∃ L, ρ i = some L ∧ x = .map (some L.b)
  | .fn f a b, x => ∃ a' b', x = .func (.func f) a' b' ∧ All2 (PRel ρ) a a'.toList ∧ All2 (PRel ρ) b b'.toList
  | .nilfn, x => x = .nilFunc

def TRel (ρ : Ren) (t : Bool × List SV) (x : Value) : Prop :=
  if t.1 then ∃ a, x = .agg a ∧ All2 (SRel ρ) t.2 a.toList else ∃ v, t.2 = [v] ∧ SRel ρ v x

def VRel (ρ : Ren) : AV → Value → Prop
  | .s v, x => SRel ρ v x
  | .agg cs, x => ∃ a, x = .agg a ∧ All2 (SRel ρ) cs a.toList
  | .tup ts, x => ∃ a, x = .tuple a ∧ All2 (TRel ρ) ts a.toList

def Ren.le (ρ ρ' : Ren) : Prop := ∀ i L, ρ i = some L → ρ' i = some L

theorem PRel.mono {ρ ρ' : Ren} (h : ρ.le ρ') {a : Nat × Nat} {x : Value} : PRel ρ a x → PRel ρ' a x := fun ⟨L, e, q⟩ => ⟨L, h _ _ e, q⟩

theorem SRel.mono {ρ ρ' : Ren} (h : ρ.le ρ') : ∀ {v : SV} {x : Value}, SRel ρ v x → SRel ρ' v x
  | .int .., _, q => q
  | .bool .., _, q => q
  | .str .., _, q => q
  | .ptr none, _, q => q
  | .ptr (some _), _, q => PRel.mono h q
  | .sl none .., _, q => q
  | .sl (some (_, _)) .., _, ⟨L, o, c, e, q⟩ => ⟨L, o, c, h _ _ e, q⟩
  | .map none, _, q => q
  | .map (some _), _, ⟨L, e, q⟩ => ⟨L, h _ _ e, q⟩
  | .fn .., _, ⟨a, b, e, p, q⟩ => ⟨a, b, e, p.mono fun _ _ => PRel.mono h, q.mono fun _ _ => PRel.mono h⟩
  | .nilfn, _, q => q

theorem TRel.mono {ρ ρ' : Ren} (h : ρ.le ρ') {t : Bool × List SV} {x : Value} (q : TRel ρ t x) : TRel ρ' t x := by
  unfold TRel at *
  split at q
  · rename_i ht
    obtain ⟨a, e, q⟩ := q
    rw [if_pos ht]
    exact ⟨a, e, q.mono fun _ _ => SRel.mono h⟩
  · rename_i ht
    obtain ⟨v, e, q⟩ := q
    rw [if_neg ht]
    exact ⟨v, e, q.mono h⟩

theorem VRel.mono {ρ ρ' : Ren} (h : ρ.le ρ') : ∀ {v : AV} {x : Value}, VRel ρ v x → VRel ρ' v x
  | .s _, _, q => SRel.mono h q
  | .agg _, _, ⟨a, e, q⟩ => ⟨a, e, q.mono fun _ _ => SRel.mono h⟩
  | .tup _, _, ⟨a, e, q⟩ => ⟨a, e, q.mono fun _ _ => TRel.mono h⟩

theorem SRel.cells {ρ : Ren} {v : SV} {x : Value} (h : SRel ρ v x) : x.cells = #[x] := by
  cases v with
  | int | bool | str | nilfn => cases h; rfl
  | ptr a => cases a with
    | none => cases h; rfl
    | some a => obtain ⟨_, _, rfl⟩ := h; rfl
  | sl a =>
    rcases a with _ | ⟨i, o⟩
    · obtain ⟨_, _, _, rfl⟩ := h; rfl
    · obtain ⟨_, _, _, _, rfl, _⟩ := h; rfl
  | map a => cases a with
    | none => cases h; rfl
    | some a => obtain ⟨_, _, rfl⟩ := h; rfl
  | fn => obtain ⟨_, _, rfl, _⟩ := h; rfl

theorem SRel.oneCell {ρ : Ren} {v : SV} {x : Value} (h : SRel ρ v x) : x.oneCell' = true := by
  cases v with
  | int | bool | str | nilfn => cases h; rfl
  | ptr a => cases a with
    | none => cases h; rfl
    | some a => obtain ⟨_, _, rfl⟩ := h; rfl
  | sl a =>
    rcases a with _ | ⟨i, o⟩
    · obtain ⟨_, _, _, rfl⟩ := h; rfl
    · obtain ⟨_, _, _, _, rfl, _⟩ := h; rfl
  | map a => cases a with
    | none => cases h; rfl
    | some a => obtain ⟨_, _, rfl⟩ := h; rfl
  | fn => obtain ⟨_, _, rfl, _⟩ := h; rfl

theorem VRel.cs {ρ : Ren} {v : AV} {x : Value} {cs : List SV} (h : VRel ρ v x) (e : v.cs = some cs) : All2 (SRel ρ) cs x.cells.toList := by
  cases v with
  | s v => cases e; rw [SRel.cells h]; exact .one h
  | agg c => cases e; obtain ⟨a, rfl, q⟩ := h; exact q
  | tup => cases e

theorem all2_oneCell {ρ : Ren} {cs : List SV} {xs : List Value} (h : All2 (SRel ρ) cs xs) : ∀ x ∈ xs, x.oneCell' = true := by
  induction h with
  | nil => simp
  | cons h _ ih =>
    intro x hx
    rcases List.mem_cons.1 hx with rfl | hx
    · exact h.oneCell
    · exact ih x hx

/-! ### the heap -/

def ERel (ρ : Ren) (e : AV × SV) (x : MapEntry) : Prop := VRel ρ e.1 x.key ∧ SRel ρ e.2 x.val

def ORel (ρ : Ren) (L : Loc) (w : World) : AO → Prop
  | .cells cs _ ro => ∃ c t fz, w.heap[L.b]? = some (.cells c t fz) ∧ c.size = L.n ∧ L.s + cs.length ≤ L.n ∧ (∀ j v, cs[j]? = some v → ∃ x, c[L.s + j]? = some x ∧ SRel ρ v x) ∧ (ro = false → ∀ o, o < L.n → ¬ (fz.1 ≤ o ∧ o < fz.2))
  | .map es => ∃ es' clock, w.heap[L.b]? = some (.map es' clock) ∧ All2 (ERel ρ) es es'.toList

theorem ORel.mono {ρ ρ' : Ren} (h : ρ.le ρ') {L : Loc} {w : World} : ∀ {o : AO}, ORel ρ L w o → ORel ρ' L w o
  | .cells .., ⟨c, t, fz, a, b, d, e, f⟩ => ⟨c, t, fz, a, b, d, fun j v hv => let ⟨x, p, q⟩ := e j v hv; ⟨x, p, q.mono h⟩, f⟩
  | .map .., ⟨es, cl, a, b⟩ => ⟨es, cl, a, b.mono fun _ _ q => ⟨q.1.mono h, q.2.mono h⟩⟩

theorem ORel.same {ρ : Ren} {L : Loc} {w w' : World} (hb : w'.heap[L.b]? = w.heap[L.b]?) : ∀ {o : AO}, ORel ρ L w o → ORel ρ L w' o
  | .cells .., ⟨c, t, fz, a, r⟩ => ⟨c, t, fz, hb.trans a, r⟩
  | .map .., ⟨es, cl, a, b⟩ => ⟨es, cl, hb.trans a, b⟩

structure Rel (ρ : Ren) (h : H) (w : World) : Prop where
  objs : ∀ i o L, h.get i = some o → ρ i = some L → ORel ρ L w o
  inj : ∀ i j Li Lj, i ≠ j → (h.get i).isSome → (h.get j).isSome → ρ i = some Li → ρ j = some Lj → Li.b ≠ Lj.b
  lt : ∀ i L, ρ i = some L → L.b < w.heap.size
  wf : ∀ i, h.nx ≤ i → h.get i = none

/-- What may be written. -/
def Own (h : H) (i : Nat) : Prop := (∃ cs t, h.get i = some (.cells cs t false)) ∨ ∃ es, h.get i = some (.map es)

theorem Own.some {h : H} {i : Nat} : Own h i → (h.get i).isSome
  | .inl ⟨_, _, e⟩ => by simp [e]
  | .inr ⟨_, e⟩ => by simp [e]

structure Step (ρ : Ren) (h : H) (w : World) (ρ' : Ren) (h' : H) (w' : World) : Prop where
  size : w.heap.size ≤ w'.heap.size
  os : w'.os = w.os
  out : w'.output = w.output
  tape : w'.tape = w.tape
  kept : ∀ b, b < w.heap.size → (∀ i L, ρ i = some L → Own h i → L.b ≠ b) → w'.heap[b]? = w.heap[b]?
  old : ∀ i, i < h.nx → ρ' i = ρ i
  far : ∀ i, h'.nx ≤ i → ρ' i = ρ i
  newb : ∀ i L, h.nx ≤ i → i < h'.nx → ρ' i = some L → w.heap.size ≤ L.b ∨ ∃ j L0, ρ j = some L0 ∧ Own h j ∧ L0.b = L.b
  live : ∀ i, i < h.nx → Own h' i → Own h i
  ghost : ∀ i, i < h.nx → ρ i = none → h'.get i = h.get i
  dead : ∀ i, i < h.nx → h.get i = none → h'.get i = none
  nx : h.nx ≤ h'.nx

theorem Step.refl (ρ : Ren) (h : H) (w : World) : Step ρ h w ρ h w :=
  ⟨Nat.le_refl _, rfl, rfl, rfl, fun _ _ _ => rfl, fun _ _ => rfl, fun _ _ => rfl, fun i L h1 h2 => by omega, fun _ _ h => h, fun _ _ _ => rfl, fun _ _ h => h, Nat.le_refl _⟩

theorem Rel.own_lt {ρ : Ren} {h : H} {w : World} (r : Rel ρ h w) {i : Nat} (o : Own h i) : i < h.nx := by
  rcases Nat.lt_or_ge i h.nx with q | q
  · exact q
  · have := r.wf i q
    have := o.some
    simp_all

theorem Step.trans {ρ ρ1 ρ2 : Ren} {h h1 h2 : H} {w w1 w2 : World} (r1 : Rel ρ1 h1 w1) (a : Step ρ h w ρ1 h1 w1) (b : Step ρ1 h1 w1 ρ2 h2 w2) : Step ρ h w ρ2 h2 w2 where
  size := Nat.le_trans a.size b.size
  os := b.os.trans a.os
  out := b.out.trans a.out
  tape := b.tape.trans a.tape
  kept := fun k hk hn => by
    rw [b.kept k (Nat.lt_of_lt_of_le hk a.size) ?_, a.kept k hk hn]
    intro i L hi ho hb
    rcases Nat.lt_or_ge i h.nx with q | q
    · exact hn i L (by rw [← a.old i q]; exact hi) (a.live i q ho) hb
    · rcases a.newb i L q (r1.own_lt ho) hi with h | ⟨j, L0, hj, hoj, hb'⟩
      · omega
      · exact hn j L0 hj hoj (hb'.trans hb)
  old := fun i hi => (b.old i (Nat.lt_of_lt_of_le hi a.nx)).trans (a.old i hi)
  far := fun i hi => (b.far i hi).trans (a.far i (Nat.le_trans b.nx hi))
  newb := fun i L hi hi2 hL => by
    rcases Nat.lt_or_ge i h1.nx with q | q
    · rw [b.old i q] at hL
      exact a.newb i L hi q hL
    · rcases b.newb i L q hi2 hL with h | ⟨j, L0, hj, hoj, hb⟩
      · exact .inl (Nat.le_trans a.size h)
      · rcases Nat.lt_or_ge j h.nx with q' | q'
        · exact .inr ⟨j, L0, by rw [← a.old j q']; exact hj, a.live j q' hoj, hb⟩
        · rcases a.newb j L0 q' (r1.own_lt hoj) hj with h | ⟨k, L1, hk, hok, hb2⟩
          · exact .inl (hb ▸ h)
          · exact .inr ⟨k, L1, hk, hok, hb2.trans hb⟩
  live := fun i hi o => a.live i hi (b.live i (Nat.lt_of_lt_of_le hi a.nx) o)
  ghost := fun i hi hn => (b.ghost i (Nat.lt_of_lt_of_le hi a.nx) (by rw [a.old i hi]; exact hn)).trans (a.ghost i hi hn)
  dead := fun i hi hn => b.dead i (Nat.lt_of_lt_of_le hi a.nx) (a.dead i hi hn)
  nx := Nat.le_trans a.nx b.nx

/-- No name is given yet to what a run makes. -/
def Fresh (ρ : Ren) (h h' : H) : Prop := ∀ i, h.nx ≤ i → i < h'.nx → ρ i = none

theorem Step.le {ρ ρ' : Ren} {h h' : H} {w w' : World} (s : Step ρ h w ρ' h' w') (f : Fresh ρ h h') : ρ.le ρ' := by
  intro i L hi
  rcases Nat.lt_or_ge i h.nx with q | q
  · rw [s.old i q, hi]
  · rcases Nat.lt_or_ge i h'.nx with q' | q'
    · rw [f i q q'] at hi; cases hi
    · rw [s.far i q', hi]

theorem Fresh.left {ρ : Ren} {h h1 h2 : H} (f : Fresh ρ h h2) (n : h1.nx ≤ h2.nx) : Fresh ρ h h1 := fun i a b => f i a (Nat.lt_of_lt_of_le b n)

theorem Fresh.right {ρ ρ1 : Ren} {h h1 h2 : H} {w w1 : World} (f : Fresh ρ h h2) (s : Step ρ h w ρ1 h1 w1) : Fresh ρ1 h1 h2 := fun i a b => by
  rw [s.far i a]; exact f i (Nat.le_trans s.nx a) b

/-! ### cells of blocks -/

theorem cell_of {w : World} {b o : Nat} {c : Array Value} {t : TypeId} {fz : Nat × Nat} (h : w.heap[b]? = some (.cells c t fz)) : w.cell? ⟨b, o, none⟩ = c[o]? := by
  simp [World.cell?, h]

theorem frozen_of {w : World} {b o : Nat} {c : Array Value} {t : TypeId} {fz : Nat × Nat} (h : w.heap[b]? = some (.cells c t fz)) : w.frozen? ⟨b, o, none⟩ = (decide (fz.1 ≤ o) && decide (o < fz.2)) := by
  obtain ⟨lo, hi⟩ := fz
  simp [World.frozen?, h]

theorem add_none (b o n : Nat) : (⟨b, o, none⟩ : Addr).add n = ⟨b, o + n, none⟩ := by
  unfold Addr.add
  split
  · rename_i h; subst h; rfl
  · rfl

/-- The world with another row in a block. -/
def putBlk (w : World) (b : Nat) (o : Obj) : World := { w with heap := w.heap.setIfInBounds b o }

theorem putBlk_at {w : World} {b : Nat} (o : Obj) (h : b < w.heap.size) : (putBlk w b o).heap[b]? = some o := by
  simp [putBlk, h]

theorem putBlk_ne {w : World} {b k : Nat} (o : Obj) (h : k ≠ b) : (putBlk w b o).heap[k]? = w.heap[k]? := by
  simp [putBlk, Ne.symm h]

@[simp] theorem putBlk_size (w : World) (b : Nat) (o : Obj) : (putBlk w b o).heap.size = w.heap.size := by simp [putBlk]

theorem putBlk_putBlk (w : World) (b : Nat) (o o' : Obj) : putBlk (putBlk w b o) b o' = putBlk w b o' := by
  simp [putBlk, Array.setIfInBounds_setIfInBounds]

theorem putBlk_self {w : World} {b : Nat} {o : Obj} (h : w.heap[b]? = some o) : putBlk w b o = w := by
  have : w.heap.setIfInBounds b o = w.heap := by
    apply Array.ext_getElem?
    intro i
    rw [Array.getElem?_setIfInBounds]
    split
    · rename_i e; subst e
      split
      · exact h.symm
      · rename_i q; rw [Array.getElem?_eq_none (by omega)]
    · rfl
  unfold putBlk
  rw [this]

theorem setCell_eq {w : World} {b o : Nat} {c : Array Value} {t : TypeId} {fz : Nat × Nat} (h : w.heap[b]? = some (.cells c t fz)) (v : Value) :
    w.setCell ⟨b, o, none⟩ v = putBlk w b (.cells (c.setIfInBounds o v) t fz) := by
  have hb : b < w.heap.size := by
    rcases Nat.lt_or_ge b w.heap.size with q | q
    · exact q
    · rw [Array.getElem?_eq_none q] at h; cases h
  unfold World.setCell putBlk
  congr 1
  apply Array.ext_getElem?
  intro i
  rw [Array.getElem?_modify, Array.getElem?_setIfInBounds]
  split
  · rename_i e; subst e
    simp [h]
  · rfl

def spliceV (c : Array Value) (o : Nat) (vs : List Value) : Array Value := (c.toList.take o ++ vs ++ c.toList.drop (o + vs.length)).toArray

theorem spliceV_size {c : Array Value} {o : Nat} {vs : List Value} (h : o + vs.length ≤ c.size) : (spliceV c o vs).size = c.size := by
  simp [spliceV]; omega

theorem spliceV_get {c : Array Value} {o : Nat} {vs : List Value} (h : o + vs.length ≤ c.size) (j : Nat) :
    (spliceV c o vs)[j]? = if o ≤ j ∧ j < o + vs.length then vs[j - o]? else c[j]? := by
  simp only [spliceV, List.getElem?_toArray]
  rw [List.append_assoc, List.getElem?_append]
  simp only [List.length_take, Array.length_toList]
  by_cases h1 : j < o
  · rw [if_pos (by omega), if_neg (by omega), List.getElem?_take]
    simp [h1]
  · rw [if_neg (by omega), List.getElem?_append]
    by_cases h2 : j < o + vs.length
    · rw [if_pos (by omega), if_pos (by omega)]
      congr 1; omega
    · rw [if_neg (by omega), if_neg (by omega), List.getElem?_drop]
      simp only [Array.getElem?_toList]
      congr 1; omega

theorem splice_length {cs : List SV} {o : Nat} {vs : List SV} (h : o + vs.length ≤ cs.length) : (splice cs o vs).length = cs.length := by
  simp [splice]; omega

theorem splice_get {cs : List SV} {o : Nat} {vs : List SV} (h : o + vs.length ≤ cs.length) (j : Nat) :
    (splice cs o vs)[j]? = if o ≤ j ∧ j < o + vs.length then vs[j - o]? else cs[j]? := by
  simp only [splice]
  rw [List.append_assoc, List.getElem?_append]
  simp only [List.length_take]
  by_cases h1 : j < o
  · rw [if_pos (by omega), if_neg (by omega), List.getElem?_take]
    simp [h1]
  · rw [if_neg (by omega), List.getElem?_append]
    by_cases h2 : j < o + vs.length
    · rw [if_pos (by omega), if_pos (by omega)]
      congr 1; omega
    · rw [if_neg (by omega), if_neg (by omega), List.getElem?_drop]
      congr 1; omega

theorem run_stores (P : Program) {b o : Nat} {t : TypeId} {fz : Nat × Nat} : ∀ (vs : List Value) (i : Nat) (c : Array Value) (w : World), w.heap[b]? = some (.cells c t fz) →
    o + i + vs.length ≤ c.size → (∀ j, j < c.size → ¬ (fz.1 ≤ j ∧ j < fz.2)) → (∀ v ∈ vs, v.oneCell' = true) →
    (storeCells ⟨b, o, none⟩ vs i).run P w = .ok () (putBlk w b (.cells (spliceV c (o + i) vs) t fz))
  | [], i, c, w, h, _, _, _ => by
    simp [storeCells, spliceV, putBlk_self h]
  | v :: rest, i, c, w, h, hl, hf, h1 => by
    have hl' : o + i + (rest.length + 1) ≤ c.size := by simpa using hl
    have hc : w.cell? ⟨b, o + i, none⟩ = some c[o + i] := by rw [cell_of h]; simp
    have hz : w.frozen? ⟨b, o + i, none⟩ = false := by
      rw [frozen_of h]
      have := hf (o + i) (by omega)
      simp only [Bool.and_eq_false_iff, decide_eq_false_iff_not]
      omega
    have hb : b < w.heap.size := by
      rcases Nat.lt_or_ge b w.heap.size with q | q
      · exact q
      · rw [Array.getElem?_eq_none q] at h; cases h
    have hst : (store ((⟨b, o, none⟩ : Addr).add i) v).run P w = .ok () (putBlk w b (.cells (c.setIfInBounds (o + i) v) t fz)) := by
      rw [add_none, run_store P w _ v _ (h1 v (by simp)), hc]
      simp [hz, setCell_eq h]
    have ih := run_stores P (b := b) (o := o) rest (i + 1) (c.setIfInBounds (o + i) v) (putBlk w b (.cells (c.setIfInBounds (o + i) v) t fz)) (putBlk_at _ hb) (by simp; omega) (by simpa using hf) (fun x hx => h1 x (by simp [hx]))
    simp only [storeCells, Sem.run_bind, hst, Result.andThen_ok, ih, putBlk_putBlk]
    congr 3
    apply Array.ext_getElem?
    intro j
    rw [spliceV_get (by simp; omega), spliceV_get (by simp; omega)]
    simp only [List.length_cons, Array.getElem?_setIfInBounds]
    by_cases h2 : o + i + 1 ≤ j ∧ j < o + i + 1 + rest.length
    · rw [if_pos (by omega), if_pos (by omega), show j - (o + i) = (j - (o + i + 1)) + 1 by omega]
      simp [Nat.add_assoc]
    · rw [if_neg (by omega)]
      by_cases h3 : o + i = j
      · subst h3
        rw [if_pos rfl, if_pos (by omega)]
        simp
      · rw [if_neg h3, if_neg (by omega)]

theorem run_loads (P : Program) {w : World} {b o : Nat} (xs : List Value) (h : ∀ j x, xs[j]? = some x → w.cell? ⟨b, o + j, none⟩ = some x) :
    (loadCells ⟨b, o, none⟩ xs.length).run P w = .ok xs.toArray w :=
  run_loadCells_list w ⟨b, o, none⟩ xs fun j v hv => by rw [add_none]; exact h j v hv

end Go.AM
