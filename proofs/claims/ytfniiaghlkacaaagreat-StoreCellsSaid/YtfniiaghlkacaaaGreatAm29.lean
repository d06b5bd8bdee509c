/- The bridge: a slice of bytes that came in. -/
import Derived.Test.YtfniiaghlkacaaaGreatAm28
namespace Go.AM
open Go Go.RowKit

/-- The machine's heap with a row of bytes that is only read. -/
def heap8 (bs : List UInt8) : H := ⟨Tr.nil.put 0 (some (.cells (bs.map fun b => .int .u8 b.toNat) 5 true)), 1⟩

theorem heap8_get (bs : List UInt8) (i : Nat) : (heap8 bs).get i = if i = 0 then some (.cells (bs.map fun b => .int .u8 b.toNat) 5 true) else none := by
  simp only [heap8, H.get, Tr.get_put]
  split
  · rfl
  · cases i <;> rfl

theorem heap8_own (bs : List UInt8) (i : Nat) : ¬ Own (heap8 bs) i := by
  rintro (⟨cs, t, h⟩ | ⟨es, h⟩) <;> (rw [heap8_get] at h; split at h <;> cases h)

theorem rel_bytes {W : World} {a : Addr} {zs : List Int} {c : Array Value} {t : TypeId} {fz : Nat × Nat} (hb : W.heap[a.block]? = some (.cells c t fz)) (hs : a.spot = none)
    (hcell : ∀ i, i < zs.length → W.cell? (a.add i) = some (.int .u8 (zs.getD i 0))) (hr : ∀ n ∈ zs, 0 ≤ n ∧ n ≤ 255) :
    ∃ ρ : Ren, Rel ρ (heap8 (zs.map fun n => UInt8.ofNat n.toNat)) W ∧ (∀ len, len ≤ zs.length → VRel ρ (.s (.sl (some (0, 0)) len zs.length true 1)) (.slice (some a) len zs.length)) ∧ ∀ i, 1 ≤ i → ρ i = none := by
  have at' : ∀ i, i < zs.length → c[a.off + i]? = some (.int .u8 (zs.getD i 0)) := by
    intro i hi
    have := hcell i hi
    have e : (a.add i).block = a.block ∧ (a.add i).off = a.off + i ∧ (a.add i).spot = none := by
      unfold Addr.add
      split
      · rename_i h; subst h; exact ⟨rfl, rfl, hs⟩
      · exact ⟨rfl, rfl, rfl⟩
    simp only [World.cell?, e.1, e.2.1, e.2.2, hb, Option.isSome_none, Bool.false_eq_true, if_false] at this
    exact this
  let s := if zs = [] then 0 else a.off
  have hfit : s + zs.length ≤ c.size := by
    by_cases h : zs = []
    · simp [s, h]
    · have hp : 0 < zs.length := List.length_pos_iff.2 h
      have := at' (zs.length - 1) (by omega)
      have := (Array.getElem?_eq_some_iff.1 this).1
      simp only [s, if_neg h]
      omega
  refine ⟨fun i => if i = 0 then some ⟨a.block, s, c.size⟩ else none, ⟨?_, ?_, ?_, ?_⟩, ?_, fun i hi => if_neg (by omega)⟩
  · intro i o L h1 h2
    rw [heap8_get] at h1
    split at h1
    · rename_i hi
      subst hi
      rw [if_pos rfl] at h2
      cases h1; cases h2
      refine ⟨c, t, fz, hb, rfl, by simpa using hfit, ?_, fun h => by cases h⟩
      intro j v hv
      simp only [List.map_map, List.getElem?_map, Option.map_eq_some_iff, Function.comp_apply] at hv
      obtain ⟨n, hn, rfl⟩ := hv
      have hj : j < zs.length := (List.getElem?_eq_some_iff.1 hn).1
      have hne : zs ≠ [] := by intro h; rw [h] at hj; simp at hj
      refine ⟨_, by simp only [s, if_neg hne]; exact at' j hj, ?_⟩
      have hmem : n ∈ zs := List.mem_of_getElem? hn
      have hrn := hr n hmem
      have e : (UInt8.ofNat n.toNat).toNat = n.toNat := by rw [UInt8.toNat_ofNat']; omega
      have g : zs.getD j 0 = n := by rw [List.getD_eq_getElem?_getD, hn]; rfl
      simp only [SRel, g, e]
      congr 1
      omega
    · cases h1
  · intro i j Li Lj hij hi hj h1 h2
    by_cases hi0 : i = 0
    · by_cases hj0 : j = 0
      · omega
      · rw [if_neg hj0] at h2; cases h2
    · rw [if_neg hi0] at h1; cases h1
  · intro i L h
    split at h
    · cases h
      exact (Array.getElem?_eq_some_iff.1 hb).1
    · cases h
  · intro i hi
    rw [heap8_get, if_neg]
    simp only [heap8] at hi
    omega
  · intro len hl
    refine ⟨⟨a.block, s, c.size⟩, a.off, zs.length, by simp, ?_, hl, Nat.le_refl _, fun _ => rfl, ?_⟩
    · congr 2
      cases a
      simp only at hs
      subst hs
      rfl
    · by_cases h : zs = []
      · left; simp [h]
      · right; exact ⟨by simp [s, h], .inl rfl⟩

end Go.AM
