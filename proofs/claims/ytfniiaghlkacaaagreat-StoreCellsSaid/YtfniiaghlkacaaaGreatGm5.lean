/- Tables of functions that were read. -/
import Derived.Test.YtfniiaghlkacaaaGreatGm4
import Derived.Test.YtfniiaghlkacaaaGreatAm24
namespace Go.AM.G
open Go Go.AM
set_option linter.unusedSimpArgs false

abbrev Pg := Cl → List AV → H → R

inductive GOk : Entry → Pg → Prop
  | code (d : Df) (p : Pg) : (∀ cl vs h r, p cl vs h = some r → denF fix cl d vs h = some r) → GOk (.code d.fn) p
  | prim (q : List AV → H → Option (AV × H)) : GOk (.prim q) (fun _ vs h => q vs h)

noncomputable section

def trOf {α : Type} (l : List (Nat × α)) : Tr α := List.rec (motive := fun _ => Tr α) .nil (fun p _ t => F.put t p.1 (some p.2)) l

theorem get_trOf {α : Type} : ∀ (l : List (Nat × α)) (f : Nat) (e : α), F.get (trOf l) f = some e → (f, e) ∈ l
  | [], f, e, h => by cases f <;> cases h
  | p :: l, f, e, h => by
    have h1 : trOf (p :: l) = F.put (trOf l) p.1 (some p.2) := rfl
    rw [h1, F.put_eq, F.get_eq, Tr.get_put] at h
    split at h
    · rename_i hf
      cases h; subst hf; simp
    · exact List.mem_cons_of_mem _ (get_trOf l f e (by rw [F.get_eq]; exact h))

abbrev Tab := List (Nat × (Entry × Pg))

def tabE (t : Tr (Entry × Pg)) : FuncId → Option Entry := fun f => F.ob (F.get t f) fun x => some x.1

/-- Calls with some fuel. -/
def runN (t : Tr (Entry × Pg)) (k : Nat) : Cl := Nat.rec (motive := fun _ => Cl) (fun _ _ _ => none) (fun _ ih f vs h => F.ob (F.get t f) fun x => x.2 ih vs h) k

def ap0 (g : Fx → Cl → H → R) : Pg := fun cl vs h => match vs with | [] => g fix cl h | _ => none
def ap1 (g : Fx → Cl → AV → H → R) : Pg := fun cl vs h => match vs with | [a] => g fix cl a h | _ => none
def ap2 (g : Fx → Cl → AV → AV → H → R) : Pg := fun cl vs h => match vs with | [a, b] => g fix cl a b h | _ => none
def ap3 (g : Fx → Cl → AV → AV → AV → H → R) : Pg := fun cl vs h => match vs with | [a, b, c] => g fix cl a b c h | _ => none
def ap4 (g : Fx → Cl → AV → AV → AV → AV → H → R) : Pg := fun cl vs h => match vs with | [a, b, c, d] => g fix cl a b c d h | _ => none
def ap5 (g : Fx → Cl → AV → AV → AV → AV → AV → H → R) : Pg := fun cl vs h => match vs with | [a, b, c, d, e] => g fix cl a b c d e h | _ => none
def ap6 (g : Fx → Cl → AV → AV → AV → AV → AV → AV → H → R) : Pg := fun cl vs h => match vs with | [a, b, c, d, e, f] => g fix cl a b c d e f h | _ => none

end

def TOk (t : Tr (Entry × Pg)) : Prop := ∀ f x, F.get t f = some x → GOk x.1 x.2

theorem runN_ok {t : Tr (Entry × Pg)} (ht : TOk t) : ∀ k, Le (runN t k) (lim (tabE t))
  | 0, _, _, _, _, hr => by cases hr
  | k + 1, f, vs, h, r, hr => by
    have hr : (F.ob (F.get t f) fun x => x.2 (runN t k) vs h) = some r := hr
    rw [ob_some] at hr
    obtain ⟨⟨e, p⟩, h1, h2⟩ := hr
    have he : tabE t f = some e := by simp only [tabE, h1, F.ob_eq]
    have hg := ht f _ h1
    simp only at hg h2
    cases hg with
    | code d p hp => exact denF_ok (runN_ok ht k) he (hp _ _ _ _ h2)
    | prim q => exact lim_prim he h2

theorem ok0 {d : Df} {g : Fx → Cl → H → R} (e : (fun fx cl h => denF fx cl d [] h) = g) : GOk (.code d.fn) (ap0 g) := .code _ _ fun cl vs h r q => by
  subst e; unfold ap0 at q; split at q
  · exact q
  · cases q
theorem ok1 {d : Df} {g : Fx → Cl → AV → H → R} (e : (fun fx cl a h => denF fx cl d [a] h) = g) : GOk (.code d.fn) (ap1 g) := .code _ _ fun cl vs h r q => by
  subst e; unfold ap1 at q; split at q
  · exact q
  · cases q
theorem ok2 {d : Df} {g : Fx → Cl → AV → AV → H → R} (e : (fun fx cl a b h => denF fx cl d [a, b] h) = g) : GOk (.code d.fn) (ap2 g) := .code _ _ fun cl vs h r q => by
  subst e; unfold ap2 at q; split at q
  · exact q
  · cases q
theorem ok3 {d : Df} {g : Fx → Cl → AV → AV → AV → H → R} (e : (fun fx cl a b c h => denF fx cl d [a, b, c] h) = g) : GOk (.code d.fn) (ap3 g) := .code _ _ fun cl vs h r q => by
  subst e; unfold ap3 at q; split at q
  · exact q
  · cases q
theorem ok4 {d : Df} {g : Fx → Cl → AV → AV → AV → AV → H → R} (e : (fun fx cl a b c x h => denF fx cl d [a, b, c, x] h) = g) : GOk (.code d.fn) (ap4 g) := .code _ _ fun cl vs h r q => by
  subst e; unfold ap4 at q; split at q
  · exact q
  · cases q
theorem ok5 {d : Df} {g : Fx → Cl → AV → AV → AV → AV → AV → H → R} (e : (fun fx cl a b c x y h => denF fx cl d [a, b, c, x, y] h) = g) : GOk (.code d.fn) (ap5 g) := .code _ _ fun cl vs h r q => by
  subst e; unfold ap5 at q; split at q
  · exact q
  · cases q
theorem ok6 {d : Df} {g : Fx → Cl → AV → AV → AV → AV → AV → AV → H → R} (e : (fun fx cl a b c x y z h => denF fx cl d [a, b, c, x, y, z] h) = g) : GOk (.code d.fn) (ap6 g) := .code _ _ fun cl vs h r q => by
  subst e; unfold ap6 at q; split at q
  · exact q
  · cases q

inductive GAll (P : Program) : Tab → Prop
  | nil : GAll P []
  | cons {f : Nat} {e : Entry} {p : Pg} {l : Tab} : GOk e p → EntryOk P f e → GAll P l → GAll P ((f, (e, p)) :: l)

theorem GAll.mem {P : Program} {l : Tab} (h : GAll P l) : ∀ q ∈ l, GOk q.2.1 q.2.2 ∧ EntryOk P q.1 q.2.1 := by
  induction h with
  | nil => intro p hp; cases hp
  | cons h1 h2 _ ih =>
    intro p hp
    rcases List.mem_cons.1 hp with rfl | hp
    · exact ⟨h1, h2⟩
    · exact ih p hp

theorem GAll.tok {P : Program} {l : Tab} (h : GAll P l) : TOk (trOf l) := fun f x hx => (h.mem (f, x) (get_trOf l f x hx)).1

theorem GAll.tab {P : Program} {l : Tab} (h : GAll P l) : TabOk P (tabE (trOf l)) := by
  intro f
  have key : ∀ e, tabE (trOf l) f = some e → EntryOk P f e := by
    intro e he
    simp only [tabE, ob_some, Option.some.injEq] at he
    obtain ⟨x, h1, rfl⟩ := he
    exact (h.mem (f, x) (get_trOf l f x h1)).2
  exact ⟨fun p hp => key _ hp, fun fn hf => key _ hf⟩

end Go.AM.G
