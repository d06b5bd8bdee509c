/- How the relation is kept when memory is written. -/
import Derived.Test.YtfniiaghlkacaaaGreatAm11
namespace Go.AM
open Go
set_option linter.unusedSimpArgs false

section
variable {P : Program} {ρ : Ren} {e : Env} {a : Act} {h : H} {w : World}

theorem some_lt (R : Rel ρ h w) {i : Nat} {o : AO} (hg : h.get i = some o) : i < h.nx := by
  rcases Nat.lt_or_ge i h.nx with q | q
  · exact q
  · rw [R.wf i q] at hg; cases hg

/-- What is written in place. -/
theorem upd_rel (R : Rel ρ h w) {i : Nat} {o o' : AO} {L : Loc} {b : Obj} (hg : h.get i = some o) (hL : ρ i = some L) (hown : Own h i)
    (ho : ORel ρ L (putBlk w L.b b) o') : Rel ρ (h.set i o') (putBlk w L.b b) ∧ Step ρ h w ρ (h.set i o') (putBlk w L.b b) := by
  have hlt := some_lt R hg
  constructor
  · constructor
    · intro j oj Lj hj hLj
      rw [H.get_set] at hj
      split at hj
      · rename_i hji; subst hji
        cases hj
        rw [hL] at hLj; cases hLj
        exact ho
      · rename_i hji
        refine (R.objs j oj Lj hj hLj).same (putBlk_ne _ ?_)
        exact R.inj j i Lj L hji (by simp [hj]) (by simp [hg]) hLj hL
    · intro j k Lj Lk hjk hj hk
      refine R.inj j k Lj Lk hjk ?_ ?_
      · rw [H.get_set] at hj; split at hj
        · rename_i q; subst q; simp [hg]
        · exact hj
      · rw [H.get_set] at hk; split at hk
        · rename_i q; subst q; simp [hg]
        · exact hk
    · intro j Lj hj; rw [putBlk_size]; exact R.lt j Lj hj
    · intro j hj
      rw [H.nx_set] at hj
      rw [H.get_set, if_neg (by omega)]
      exact R.wf j hj
  · refine ⟨by simp, rfl, rfl, rfl, fun k hk hn => putBlk_ne _ ?_, fun _ _ => rfl, fun _ _ => rfl, fun j Lj h1 h2 => by simp at h2; omega, fun j _ ho => ?_, fun j _ hn => ?_, fun j _ hn2 => ?_, Nat.le_refl _⟩
    · exact fun hk => hn i L hL hown hk.symm
    · by_cases hji : j = i
      · subst hji; exact hown
      · rcases ho with ⟨cs, t, q⟩ | ⟨es, q⟩
        · rw [H.get_set, if_neg hji] at q; exact .inl ⟨cs, t, q⟩
        · rw [H.get_set, if_neg hji] at q; exact .inr ⟨es, q⟩
    · rw [H.get_set, if_neg]
      rintro rfl
      rw [hL] at hn; cases hn
    · rw [H.get_set, if_neg]
      · exact hn2
      · rintro rfl
        rw [hg] at hn2; cases hn2

def Ren.set (ρ : Ren) (i : Nat) (L : Loc) : Ren := fun j => if j = i then some L else ρ j

theorem Ren.le_set {ρ : Ren} {i : Nat} {L : Loc} (hn : ρ i = none) : ρ.le (ρ.set i L) := by
  intro j Lj hj
  unfold Ren.set
  split
  · rename_i q; subst q; rw [hn] at hj; cases hj
  · exact hj

/-- What is made. -/
theorem new_rel (R : Rel ρ h w) (hn : ρ h.nx = none) {ob : AO} {f : Nat → AV} {x : Value} {w' : World} {L : Loc} (m : Made ρ w ob f x w' L) :
    Rel (ρ.set h.nx L) (h.new ob) w' ∧ Step ρ h w (ρ.set h.nx L) (h.new ob) w' ∧ VRel (ρ.set h.nx L) (f h.nx) x := by
  have hle := Ren.le_set (L := L) hn
  refine ⟨⟨?_, ?_, ?_, ?_⟩, ⟨by rw [m.size]; omega, m.os, m.out, m.tape, fun k hk _ => m.kept k hk, ?_, ?_, ?_, ?_, ?_, ?_, by simp⟩, m.val _ _ (by simp [Ren.set])⟩
  · intro j oj Lj hj hLj
    rw [H.get_new] at hj
    split at hj
    · rename_i q; subst q
      cases hj
      simp [Ren.set] at hLj; subst hLj
      exact m.obj.mono hle
    · rename_i q
      simp only [Ren.set, q, if_false] at hLj
      exact ((R.objs j oj Lj hj hLj).same (m.kept _ (R.lt j Lj hLj))).mono hle
  · intro j k Lj Lk hjk hj hk hLj hLk
    rw [H.get_new] at hj hk
    by_cases q1 : j = h.nx
    · by_cases q2 : k = h.nx
      · omega
      · simp [Ren.set, q1] at hLj
        simp only [Ren.set, q2, if_false] at hLk
        have := R.lt k Lk hLk
        rw [← hLj, m.blk]; omega
    · simp only [Ren.set, q1, if_false] at hLj hj
      by_cases q2 : k = h.nx
      · simp [Ren.set, q2] at hLk
        have := R.lt j Lj hLj
        rw [← hLk, m.blk]; omega
      · simp only [Ren.set, q2, if_false] at hLk hk
        exact R.inj j k Lj Lk hjk hj hk hLj hLk
  · intro j Lj hj
    rw [m.size]
    unfold Ren.set at hj
    split at hj
    · cases hj; rw [m.blk]; omega
    · have := R.lt j Lj hj; omega
  · intro j hj
    simp at hj
    rw [H.get_new, if_neg (by omega)]
    exact R.wf j (by omega)
  · intro j hj; simp [Ren.set, Nat.ne_of_lt hj]
  · intro j hj
    simp at hj
    simp only [Ren.set]; rw [if_neg (by omega)]
  · intro j Lj h1 h2 hj
    simp at h2
    have : j = h.nx := by omega
    subst this
    simp [Ren.set] at hj; subst hj
    exact .inl (by rw [m.blk]; exact Nat.le_refl _)
  · intro j hj ho
    rcases ho with ⟨cs, t, q⟩ | ⟨es, q⟩
    · rw [H.get_new, if_neg (by omega)] at q; exact .inl ⟨cs, t, q⟩
    · rw [H.get_new, if_neg (by omega)] at q; exact .inr ⟨es, q⟩
  · intro j hj _
    rw [H.get_new, if_neg (by omega)]
  · intro j hj hn2
    rw [H.get_new, if_neg (by omega)]; exact hn2

/-- A block that is let go. -/
theorem del_rel (R : Rel ρ h w) {i : Nat} {L : Loc} (hL : ρ i = some L) : Rel ρ (h.del i) w ∧ Step ρ h w ρ (h.del i) w := by
  have live : ∀ j o, (h.del i).get j = some o → h.get j = some o := by
    intro j o hj
    rw [H.get_del] at hj
    split at hj
    · cases hj
    · exact hj
  refine ⟨⟨fun j oj Lj hj hLj => R.objs j oj Lj (live _ _ hj) hLj, ?_, R.lt, ?_⟩, ⟨Nat.le_refl _, rfl, rfl, rfl, fun _ _ _ => rfl, fun _ _ => rfl, fun _ _ => rfl, fun j Lj h1 h2 => by simp at h2; omega, ?_, ?_, ?_, Nat.le_refl _⟩⟩
  · intro j k Lj Lk hjk hj hk
    obtain ⟨oj, hj⟩ := Option.isSome_iff_exists.1 hj
    obtain ⟨ok, hk⟩ := Option.isSome_iff_exists.1 hk
    exact R.inj j k Lj Lk hjk (by simp [live _ _ hj]) (by simp [live _ _ hk])
  · intro j hj
    rw [H.get_del]
    split
    · rfl
    · exact R.wf j hj
  · rintro j _ (⟨cs, t, q⟩ | ⟨es, q⟩)
    · exact .inl ⟨cs, t, live _ _ q⟩
    · exact .inr ⟨es, live _ _ q⟩
  · intro j _ hn
    rw [H.get_del, if_neg]
    rintro rfl
    rw [hL] at hn; cases hn
  · intro j _ hn
    rw [H.get_del]
    split
    · rfl
    · exact hn

/-- A block that is let go and taken again under a new number. -/
theorem adopt_rel (R : Rel ρ h w) (hn : ρ h.nx = none) {i : Nat} {o : AO} {L L' : Loc} {b : Obj} {ob : AO} (hg : h.get i = some o) (hL : ρ i = some L) (hown : Own h i) (hb : L'.b = L.b)
    (ho : ORel ρ L' (putBlk w L.b b) ob) : Rel (ρ.set h.nx L') ((h.del i).new ob) (putBlk w L.b b) ∧ Step ρ h w (ρ.set h.nx L') ((h.del i).new ob) (putBlk w L.b b) := by
  have hle := Ren.le_set (L := L') hn
  have hlt := some_lt R hg
  have live : ∀ j o, j ≠ h.nx → ((h.del i).new ob).get j = some o → h.get j = some o ∧ j ≠ i := by
    intro j o hj1 hj
    rw [H.get_new, H.nx_del, if_neg hj1, H.get_del] at hj
    split at hj
    · cases hj
    · exact ⟨hj, by assumption⟩
  refine ⟨⟨?_, ?_, ?_, ?_⟩, ⟨by simp, rfl, rfl, rfl, fun k hk hq => putBlk_ne _ fun hk2 => hq i L hL hown hk2.symm, ?_, ?_, ?_, ?_, ?_, ?_, by simp⟩⟩
  · intro j oj Lj hj hLj
    by_cases q : j = h.nx
    · subst q
      rw [H.get_new, H.nx_del, if_pos rfl] at hj
      cases hj
      simp [Ren.set] at hLj; subst hLj
      exact ho.mono hle
    · obtain ⟨hj, hji⟩ := live _ _ q hj
      simp only [Ren.set, q, if_false] at hLj
      exact ((R.objs j oj Lj hj hLj).same (putBlk_ne _ (R.inj j i Lj L hji (by simp [hj]) (by simp [hg]) hLj hL))).mono hle
  · intro j k Lj Lk hjk hj hk hLj hLk
    obtain ⟨oj, hj⟩ := Option.isSome_iff_exists.1 hj
    obtain ⟨ok, hk⟩ := Option.isSome_iff_exists.1 hk
    by_cases q1 : j = h.nx
    · by_cases q2 : k = h.nx
      · omega
      · obtain ⟨hk, hki⟩ := live _ _ q2 hk
        simp [Ren.set, q1] at hLj; subst hLj
        simp only [Ren.set, q2, if_false] at hLk
        rw [hb]
        exact (R.inj k i Lk L hki (by simp [hk]) (by simp [hg]) hLk hL).symm
    · obtain ⟨hj, hji⟩ := live _ _ q1 hj
      simp only [Ren.set, q1, if_false] at hLj
      by_cases q2 : k = h.nx
      · simp [Ren.set, q2] at hLk; subst hLk
        rw [hb]
        exact R.inj j i Lj L hji (by simp [hj]) (by simp [hg]) hLj hL
      · obtain ⟨hk, hki⟩ := live _ _ q2 hk
        simp only [Ren.set, q2, if_false] at hLk
        exact R.inj j k Lj Lk hjk (by simp [hj]) (by simp [hk]) hLj hLk
  · intro j Lj hj
    rw [putBlk_size]
    unfold Ren.set at hj
    split at hj
    · cases hj; rw [hb]; exact R.lt i L hL
    · exact R.lt j Lj hj
  · intro j hj
    simp at hj
    rw [H.get_new, H.nx_del, if_neg (by omega), H.get_del]
    split
    · rfl
    · exact R.wf j (by omega)
  · intro j hj; simp [Ren.set, Nat.ne_of_lt hj]
  · intro j hj
    simp at hj
    simp only [Ren.set]; rw [if_neg (by omega)]
  · intro j Lj h1 h2 hj
    simp at h2
    have : j = h.nx := by omega
    subst this
    simp [Ren.set] at hj; subst hj
    exact .inr ⟨i, L, hL, hown, hb.symm⟩
  · rintro j hj (⟨cs, t, q⟩ | ⟨es, q⟩)
    · exact .inl ⟨cs, t, (live _ _ (by omega) q).1⟩
    · exact .inr ⟨es, (live _ _ (by omega) q).1⟩
  · intro j hj hnone
    rw [H.get_new, H.nx_del, if_neg (by omega), H.get_del, if_neg]
    rintro rfl
    rw [hL] at hnone; cases hnone
  · intro j hj hnone
    rw [H.get_new, H.nx_del, if_neg (by omega), H.get_del]
    split
    · rfl
    · exact hnone

end
end Go.AM
