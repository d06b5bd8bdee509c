/- Stores, map stores, copies, clears. -/
import Derived.Test.YtfniiaghlkacaaaGreatAm12
namespace Go.AM
open Go
set_option linter.unusedSimpArgs false

section
variable {P : Program} {ρ : Ren} {e : Env} {a : Act} {h : H} {w : World}

/-- What becomes of an operation's value. -/
def NRel (ρ : Ren) : Option AV → Next → Prop
  | none, n => n = .skip ∨ ∃ x, n = .value x
  | some u, n => ∃ x, n = .value x ∧ VRel ρ u x

/-- What the code of an operation that acts comes to. -/
def ActsOp (P : Program) (ρ : Ren) (a : Act) (g : Go.Op) (h : H) (w : World) (v : Option AV) (h' : H) : Prop :=
  ∀ (dst : Option Tmp) (ty : TypeId) (pos : String) (aft : Array Edge) (gd : Option (Nat × Bool)), ∃ n w' ρ', (execOp a.eval ⟨dst, g, ty, pos, aft, gd⟩).run P w = .ok n w' ∧ Rel ρ' h' w' ∧ Step ρ h w ρ' h' w' ∧ NRel ρ' v n

theorem store_run (R : Rel ρ h w) {i o : Nat} {cs vs : List SV} {t : TypeId} {xs : List Value} {L : Loc} (hg : h.get i = some (.cells cs t false)) (hL : ρ i = some L) (hx : All2 (SRel ρ) vs xs) (hl : o + vs.length ≤ cs.length) (P : Program) :
    ∃ w', (storeCells ⟨L.b, L.s + o, none⟩ xs).run P w = .ok () w' ∧ Rel ρ (h.set i (.cells (splice cs o vs) t false)) w' ∧ Step ρ h w ρ (h.set i (.cells (splice cs o vs) t false)) w' := by
  obtain ⟨c, t', fz, hb, hs, hn, hcell, hfz⟩ := R.objs i _ L hg hL
  have hlen := hx.length
  have hfz' := hfz rfl
  have hrun := run_stores P (b := L.b) (o := L.s + o) xs 0 c w hb (by omega) (fun j hj => hfz' j (by omega)) (all2_oneCell hx)
  have hbl := R.lt i L hL
  obtain ⟨r1, r2⟩ := upd_rel R (b := .cells (spliceV c (L.s + o) xs) t' fz) (o' := .cells (splice cs o vs) t false) hg hL (.inl ⟨_, _, hg⟩) (by
    refine ⟨_, _, _, putBlk_at _ hbl, by rw [spliceV_size (by omega)]; exact hs, by rw [splice_length hl]; exact hn, fun j v hv => ?_, hfz⟩
    rw [splice_get hl] at hv
    rw [spliceV_get (by omega)]
    split at hv
    · rename_i hj
      rw [if_pos (by omega)]
      obtain ⟨y, hy, q⟩ := hx.get _ _ hv
      exact ⟨y, by rw [← hy]; congr 1; omega, q⟩
    · rename_i hj
      rw [if_neg (by omega)]
      exact hcell j v hv)
  exact ⟨_, by simpa using hrun, r1, r2⟩

theorem sim_st (r : EnvRel ρ e a.tmps) (R : Rel ρ h w) {t : TypeId} {x y : Operand} {op : Op} (hc : cOp P (.store t x y) = some op) {cl : FuncId → List AV → H → Option (AV × H)} {v : Option AV} {h' : H}
    (hv : actOp cl e h op = some (v, h')) : ActsOp P ρ a (.store t x y) h w v h' := by
  simp only [cOp] at hc
  split at hc
  case h_2 => cases hc
  rename_i n x' y' hn hx hy
  cases hc
  simp only [actOp] at hv
  split at hv
  case h_2 => cases hv
  rename_i i o vs h1 h2
  split at hv
  case h_2 => cases hv
  rename_i cs t' hg
  split at hv
  case isFalse => cases hv
  rename_i hl
  obtain ⟨hl1, hl2⟩ := hl
  cases hv
  obtain ⟨L, hL, he⟩ := ev_sim r hx h1
  simp only [Option.bind_eq_some_iff] at h2
  obtain ⟨u, hu, hcs⟩ := h2
  have hr := VRel.cs (ev_sim r hy hu) hcs
  have hlen := hr.length
  obtain ⟨w', hrun, r1, r2⟩ := store_run (o := o) R hg hL hr (by omega) P
  have hsz : (a.eval y).cells.size = n := by have q := hr.length; simp only [Array.length_toList] at q; omega
  intro dst ty pos aft gd
  refine ⟨.skip, w', ρ, ?_, r1, r2, .inl rfl⟩
  simp only [execOp, Sem.run_bind, Instr.storeAt, he, Instr.sureAddr, Sem.run_pure, Result.andThen_ok, storeVar, size_run hn]
  rw [if_neg (by simpa using hsz)]
  simp only [hrun, Result.andThen_ok, Sem.run_pure]

/-! ### maps -/

theorem same_eqc {k : K} {u v : SV} {x y : Value} (hx : SRel ρ u x) (hy : SRel ρ v y) (h : eqc k u v = some true) (n : Nat) : Instr.sameBits n x y = true := by
  cases k
  · obtain ⟨p, q, rfl, rfl, hq⟩ := eqc_b h
    cases hx; cases hy
    simpa [Instr.sameBits] using hq.symm
  · obtain ⟨k, p, q, rfl, rfl, hq⟩ := eqc_i h
    cases hx; cases hy
    simpa [Instr.sameBits] using hq.symm
  · obtain ⟨p, q, rfl, rfl, hq⟩ := eqc_s h
    cases hx; cases hy
    have : p = q := by simpa using hq.symm
    subst this
    simp only [Instr.sameBits, beq_toListBytes]
    simp

theorem same_eqcs : ∀ {ks : List K} {cs ds : List SV} {xs ys : List Value}, All2 (SRel ρ) cs xs → All2 (SRel ρ) ds ys → eqcs ks cs ds = some true → ∀ n, ((xs.zip ys).all fun (x, y) => Instr.sameBits n x y) = true
  | [], [], [], _, _, hx, hy, _, n => by cases hx; cases hy; rfl
  | [], [], _ :: _, _, _, _, _, h, _ => by simp [eqcs] at h
  | [], _ :: _, _, _, _, _, _, h, _ => by simp [eqcs] at h
  | k :: ks, [], _, _, _, _, _, h, _ => by simp [eqcs] at h
  | k :: ks, c :: cs, [], _, _, _, _, h, _ => by simp [eqcs] at h
  | k :: ks, c :: cs, d :: ds, _, _, hx, hy, h, n => by
    cases hx with
    | cons x1 x2 => cases hy with
      | cons y1 y2 =>
        simp only [eqcs] at h
        cases h1 : eqc k c d with
        | none => simp [h1] at h
        | some p =>
          cases h2 : eqcs ks cs ds with
          | none => simp [h1, h2] at h
          | some q =>
            simp [h1, h2] at h
            obtain ⟨rfl, rfl⟩ := h
            simp only [List.zip_cons_cons, List.all_cons, same_eqc x1 y1 h1 n, same_eqcs x2 y2 h2 n, Bool.and_self]

theorem same_eqk {g : Bool} {ks : List K} {u v : AV} {x y : Value} (hx : VRel ρ u x) (hy : VRel ρ v y) (h : eqk g ks u v = some true) : Instr.sameBits 10000 y x = true := by
  have sym : ∀ {k : K} {u v : SV}, eqc k u v = some true → eqc k v u = some true := by
    intro k u v h
    cases k
    · obtain ⟨p, q, rfl, rfl, hq⟩ := eqc_b h
      have : p = q := by simpa using hq.symm
      subst this; exact h
    · obtain ⟨k, p, q, rfl, rfl, hq⟩ := eqc_i h
      have : p = q := by simpa using hq.symm
      subst this; exact h
    · obtain ⟨p, q, rfl, rfl, hq⟩ := eqc_s h
      have : p = q := by simpa using hq.symm
      subst this; exact h
  have syms : ∀ {ks : List K} {cs ds : List SV}, eqcs ks cs ds = some true → eqcs ks ds cs = some true := by
    intro ks
    induction ks with
    | nil => intro cs ds h; cases cs <;> cases ds <;> simp_all [eqcs]
    | cons k ks ih =>
      intro cs ds h
      cases cs <;> cases ds <;> simp only [eqcs] at h ⊢ <;> first | (cases h; done) | skip
      rename_i c cs d ds
      cases h1 : eqc k c d with
      | none => simp [h1] at h
      | some p =>
        cases h2 : eqcs ks cs ds with
        | none => simp [h1, h2] at h
        | some q =>
          simp [h1, h2] at h
          obtain ⟨rfl, rfl⟩ := h
          rw [sym h1, ih h2]; rfl
  cases u with
  | tup => simp [eqk] at h
  | agg cs => cases v with
    | agg ds =>
      simp only [eqk] at h
      split at h
      · obtain ⟨xs, rfl, hx⟩ := hx
        obtain ⟨ys, rfl, hy⟩ := hy
        have h := syms h
        have hl := eqcs_len h
        have l1 := hx.length
        have l2 := hy.length
        simp only [Array.length_toList] at l1 l2
        simp only [Instr.sameBits, Bool.and_eq_true, beq_iff_eq]
        exact ⟨by omega, same_eqcs hy hx h 9999⟩
      · cases h
    | _ => simp [eqk] at h
  | s u => cases v with
    | s v =>
      simp only [eqk] at h
      split at h
      · cases h
      · have h := syms h
        have := same_eqcs (.one hy) (.one hx) h 10000
        simpa using this
    | _ => simp [eqk] at h

theorem ix_at {g : Bool} {ks : List K} {u : AV} : ∀ {es : List (AV × SV)} {i j : Nat}, ixOf g ks u es i = some (some j) → ∃ en, es[j - i]? = some en ∧ eqk g ks u en.1 = some true
  | [], i, j, h => by simp [ixOf] at h
  | e :: es, i, j, h => by
    simp only [ixOf] at h
    split at h
    · rename_i hq; cases h; exact ⟨e, by simp, hq⟩
    · have hge := ix_ge h
      obtain ⟨en, h1, h2⟩ := ix_at h
      exact ⟨en, by rw [show j - i = (j - (i + 1)) + 1 by omega]; simpa using h1, h2⟩
    · cases h

theorem All2.set {α β : Type} {S : α → β → Prop} {x : α} {y : β} (h : S x y) : ∀ {as : List α} {bs : List β} (j : Nat), All2 S as bs → All2 S (as.set j x) (bs.set j y)
  | _, _, _, .nil => by simpa using All2.nil
  | _, _, 0, .cons _ t => .cons h t
  | _, _, j + 1, .cons k t => .cons k (All2.set h j t)

theorem sim_mupd (r : EnvRel ρ e a.tmps) (R : Rel ρ h w) {t : TypeId} {m k x : Operand} {op : Op} (hc : cOp P (.mapUpdate t m k x) = some op) {cl : FuncId → List AV → H → Option (AV × H)} {v : Option AV} {h' : H}
    (hv : actOp cl e h op = some (v, h')) : ActsOp P ρ a (.mapUpdate t m k x) h w v h' := by
  simp only [cOp] at hc
  split at hc
  case h_2 => cases hc
  rename_i kt el m' k' x' hu hm hk hx
  split at hc
  case h_2 => cases hc
  rename_i ks hks
  split at hc
  case h_2 => cases hc
  rename_i g he hg
  split at hc
  case isFalse => cases hc
  rename_i hko
  cases hc
  simp only [actOp] at hv
  split at hv
  case h_2 => cases hv
  rename_i i kv xv hmv hkv hxv
  split at hv
  case isFalse => cases hv
  rename_i hfit
  split at hv
  case h_2 => cases hv
  rename_i es hes
  obtain ⟨L, hL, hme⟩ := ev_sim r hm hmv
  have hkr := ev_sim r hk hkv
  have hxr : SRel ρ xv (a.eval x) := ev_sim r hx hxv
  obtain ⟨es', clock, hb, hall⟩ := map_of R hes hL
  obtain ⟨b, hfb⟩ := Option.isSome_iff_exists.1 hfit
  have hck := ck_run hko hg hks hkr hfb false w
  have hbl := R.lt i L hL
  have hset : ∀ o : Obj, (Go.setObj L.b o).run P w = .ok () (putBlk w L.b o) := by
    intro o
    simp [Go.setObj, Sem.run, hb, putBlk]
  intro dst ty pos aft gd
  split at hv
  · rename_i hix
    cases hv
    have hkey := key_run (P := P) hg hks hkr w hix hall
    obtain ⟨r1, r2⟩ := upd_rel R (b := .map (es'.push { key := a.eval k, val := a.eval x, born := clock }) (clock + 1)) (o' := .map (es ++ [(kv, xv)])) hes hL (.inr ⟨_, hes⟩)
      ⟨_, _, putBlk_at _ hbl, by rw [Array.toList_push]; exact hall.append (.one ⟨hkr, hxr⟩)⟩
    refine ⟨.skip, _, ρ, ?_, r1, r2, .inl rfl⟩
    simp only [execOp, Sem.run_bind, Instr.mapUpdate, run_underlying hu, Result.andThen_ok, hme, getObj_run hb, hck, hkey, foundAt, Option.bind_none, hset, Sem.run_pure]
  · rename_i j hix
    cases hv
    have hkey := key_run (P := P) hg hks hkr w hix hall
    obtain ⟨en, hen, heq⟩ := ix_at hix
    obtain ⟨en', hen', q⟩ := hall.get _ _ hen
    have hsame := same_eqk hkr q.1 heq
    rw [Nat.sub_zero] at hen hen'
    rw [Array.getElem?_toList] at hen'
    obtain ⟨r1, r2⟩ := upd_rel R (b := .map (es'.modify j fun e => { e with key := a.eval k, val := a.eval x }) clock) (o' := .map (es.set j (kv, xv))) hes hL (.inr ⟨_, hes⟩) (by
      refine ⟨_, _, putBlk_at _ hbl, ?_⟩
      have : (es'.modify j fun e => { e with key := a.eval k, val := a.eval x }).toList = es'.toList.set j { en' with key := a.eval k, val := a.eval x } := by
        apply List.ext_getElem?
        intro q
        rw [Array.getElem?_toList, Array.getElem?_modify, List.getElem?_set]
        by_cases hq : j = q
        · subst hq
          simp only [if_true, hen', Option.map_some]
          have : j < es'.toList.length := by
            rcases Nat.lt_or_ge j es'.size with q | q
            · simpa using q
            · rw [Array.getElem?_eq_none q] at hen'; cases hen'
          rw [if_pos this]
        · simp [hq]
      rw [this]
      exact All2.set ⟨hkr, hxr⟩ j hall)
    refine ⟨.skip, _, ρ, ?_, r1, r2, .inl rfl⟩
    simp only [execOp, Sem.run_bind, Instr.mapUpdate, run_underlying hu, Result.andThen_ok, hme, getObj_run hb, hck, hkey, foundAt, Option.bind_some, Nat.sub_zero, Array.getElem?_toList, hen', Option.map_some, Option.getD_some,
      Instr.keyThatStays, hsame, if_true, Sem.run_pure, hset]
  · cases hv

/-! ### copies -/

theorem src_run (R : Rel ρ h w) {sz : Nat} {u : AV} {x : Value} {xs : List SV} {n : Nat} (hs : srcCells h sz u = some xs) (hl : lenOf u = some n) (hx : VRel ρ u x) :
    ∃ ys, All2 (SRel ρ) xs ys ∧ xs.length = n * sz ∧ (∀ P, (Builtin.lenOf x).run P w = .ok n w) ∧ ∀ P m, m ≤ n → (Builtin.firstCells sz m x).run P w = .ok (ys.take (m * sz)).toArray w := by
  unfold srcCells at hs
  split at hs
  · cases hs
    cases hl
    obtain ⟨rfl, rfl, _, rfl⟩ := hx
    exact ⟨[], .nil, by simp, fun _ => rfl, fun P m _ => by simp [Builtin.firstCells]⟩
  · rename_i i o len cap ex z
    cases hl
    split at hs
    case isFalse => cases hs
    rename_i hz
    subst hz
    obtain ⟨L, o', c', hL, rfl, hlc, hcc, hex, hof⟩ := hx
    obtain ⟨ys, hlen, hr, q⟩ := cells_run R hs hL
    refine ⟨ys, q, by rw [q.length, hlen], fun _ => rfl, fun P m hm => ?_⟩
    by_cases h0 : m * z = 0
    · simp [Builtin.firstCells, h0, loadCells, loadCellsFrom]
    · have ho : o' = L.s + o := by
        rcases hof with h | h
        · have : m = 0 := by omega
          subst this; simp at h0
        · exact h.1
      subst ho
      unfold cellsAt at hs
      split at hs
      case h_2 => cases hs
      rename_i cs t ro hg
      split at hs
      case isFalse => cases hs
      rename_i hfit
      have hmz : m * z ≤ n * z := Nat.mul_le_mul_right _ hm
      have h2 : cellsAt h i o (m * z) = some ((cs.drop o).take (m * z)) := by
        unfold cellsAt; rw [hg]; simp only; rw [if_pos (by omega)]
      obtain ⟨ys2, hlen2, hr2, q2⟩ := cells_run R h2 hL
      have : ys2 = ys.take (m * z) := by
        have e1 := hr P
        have e2 := hr2 P
        -- both are the cells of the block
        obtain ⟨c, t', fz, hb, hsz, hn, _, _⟩ := R.objs i _ L hg hL
        apply List.ext_getElem?
        intro j
        have cell : ∀ (k : Nat) (zs : List Value), zs.length = k → (loadCells ⟨L.b, L.s + o, none⟩ k).run P w = .ok zs.toArray w → L.s + o + k ≤ c.size → zs = (c.toList.drop (L.s + o)).take k := by
          intro k zs hk hrun hle
          have := run_loads P (w := w) (b := L.b) (o := L.s + o) ((c.toList.drop (L.s + o)).take k) (by
            intro j x hx
            rw [cell_of hb]
            rw [List.getElem?_take] at hx
            split at hx
            · rw [List.getElem?_drop, Array.getElem?_toList] at hx
              exact hx
            · cases hx)
          have hlk : ((c.toList.drop (L.s + o)).take k).length = k := by simp; omega
          rw [hlk, hrun] at this
          simpa using this
        rw [cell _ _ hlen2 e2 (by omega), cell _ _ hlen e1 (by omega), List.take_take, Nat.min_eq_left hmz]
      rw [← this]
      simp only [Builtin.firstCells]
      exact hr2 P
  · rename_i s
    cases hl
    split at hs
    case isFalse => cases hs
    rename_i hz
    subst hz
    cases hs
    cases hx
    refine ⟨s.map fun b => Value.int .u8 b.toNat, by simpa using bytes_rel (ρ := ρ) s, by simp, fun _ => by simp [Builtin.lenOf, size_mk], fun P m hm => ?_⟩
    simp only [Builtin.firstCells, Sem.run_pure]
    congr 1
    apply Array.ext'
    simp [List.map_take]
  · cases hs

end
end Go.AM
