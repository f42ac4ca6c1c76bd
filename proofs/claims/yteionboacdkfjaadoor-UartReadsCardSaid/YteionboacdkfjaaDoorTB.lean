/-
  A seat's program under the executor: a function run on arguments without pointers.
-/
import Derived.Test.YteionboacdkfjaaDoorTA
namespace Go.Proofs.YteionboacdkfjaaDoor.X

/-- A function by the executor: 'fuel' rounds a loop, n calls deep. -/
noncomputable def goS (so over : FuncId → Option CT) (fuel n : Nat) (f : FuncId) (args : List V) (k : V → Bool) : Bool :=
  match calls PP over (DR PP so) fuel n f with
  | some F => F args (hN PP) (fun v _ => k v)
  | none => false

def noOver : FuncId → Option CT := fun _ => none

noncomputable abbrev go := goS noOver

theorem mixed : PP.follows .mixedOrders = true := by kernel_rfl

theorem goS_ok {so : FuncId → Option CT} (hso : ∀ g F, so g = some F → CTokE PP true g F) {over : FuncId → Option CT} (hover : ∀ g F, over g = some F → CTok PP g F) {fuel n : Nat} {f : FuncId} {dec : List V → Option (Bool × PV)}
    (hd : ∀ args c r, dec args = some (c, r) → c = true → flatVs args = true ∧ goS so over fuel n f args (subB r.val) = true) : CTok PP f (closedCT dec) := by
  intro args h k vals w μ A hv hE hk
  cases hF : calls PP over (DR PP so) fuel n f with
  | none =>
    unfold closedCT at hk
    split at hk
    · rename_i c r hdec
      simp only [Bool.cond_eq_ite] at hk
      split at hk
      · rename_i hc
        have := (hd args c r hdec hc).2
        simp [goS, hF] at this
      · cases hk
    · cases hk
  | some F =>
    refine closedCT_ok (run_ok mixed hso hover fuel n f F hF) (dec := dec) (fun args c r h1 h2 => ?_) args h k vals w μ A hv hE hk
    have := hd args c r h1 h2
    simp only [goS, hF] at this
    exact this

theorem noOver_ok : ∀ g F, noOver g = some F → CTok PP g F := fun g F h => by cases h
theorem noOver_hard : ∀ g F, noOver g = some F → CTokE PP true g F := fun g F h => by cases h
theorem go_ok {over : FuncId → Option CT} (hover : ∀ g F, over g = some F → CTok PP g F) {fuel n : Nat} {f : FuncId} {dec : List V → Option (Bool × PV)}
    (hd : ∀ args c r, dec args = some (c, r) → c = true → flatVs args = true ∧ go over fuel n f args (subB r.val) = true) : CTok PP f (closedCT dec) := goS_ok noOver_hard hover hd

/-- What a function comes to: a tree of tests; nothing said where it is bad. -/
inductive PT (R : Type) where
  | v (x : R)
  | if_ (c : Bool) (a b : PT R)
  | two (a : PT R)
  | bad

def PT.run {R : Type} (q : R → Bool) : PT R → Bool
  | .v x => q x
  | .if_ c a b => cond c (a.run q) (b.run q)
  | .two a => cond (a.run q) (a.run q) false
  | .bad => false
def PT.ok {R : Type} : PT R → Bool
  | .v _ => true
  | .if_ c a b => cond c a.ok b.ok
  | .two a => a.ok
  | .bad => false
def PT.val {R : Type} (d : R) : PT R → R
  | .v x => x
  | .if_ c a b => cond c (a.val d) (b.val d)
  | .two a => a.val d
  | .bad => d

theorem PT.run_val {R : Type} (q : R → Bool) (d : R) : ∀ p : PT R, p.ok = true → p.run q = q (p.val d)
  | .v x, _ => rfl
  | .if_ c a b, h => by
    cases c with
    | true => exact PT.run_val q d a h
    | false => exact PT.run_val q d b h
  | .two a, h => by
    have := PT.run_val q d a h
    simp only [PT.run, PT.val, this]
    cases q (a.val d) <;> rfl
  | .bad, h => by cases h

/-- An error as a number: 0 is none. -/
def errPV (T : TypeId) (e : Int) (f : V → V) : PV := .if_ (e == 0) (.v (f (.sc .ni))) (.v (f (.sc (.ifc T (.i .i64 e)))))
/-- A mark for the printing tool. -/
def errV (_ : Int) : V := .jk

/-- How arguments stand for data. -/
structure Dc (α : Type) where
  dec : List V → Option α
  enc : α → List V
  sp : ∀ vs a, dec vs = some a → vs = enc a
  fl : ∀ a, flatVs (enc a) = true

/-- A contract: data in, a test, data out. -/
noncomputable def fnCT {α γ : Type} (d : Dc α) (ok : α → Bool) (val : α → γ) (er : γ → PV) : CT := closedCT fun args => (d.dec args).map fun a => (ok a, er (val a))

theorem fnCT_ok {so : FuncId → Option CT} (hso : ∀ g F, so g = some F → CTokE PP true g F) {over : FuncId → Option CT} (hover : ∀ g F, over g = some F → CTok PP g F) {fuel n : Nat} {f : FuncId} {α γ : Type} {d : Dc α} {P : α → PT γ} {dd : γ} {er : γ → PV} (hfl : ∀ r, flatV (er r).val = true)
    (hrun : ∀ a q, goS so over fuel n f (d.enc a) q = (P a).run fun r => (er r).run q) : CTok PP f (fnCT d (fun a => (P a).ok) (fun a => (P a).val dd) er) := by
  refine goS_ok hso hover (fuel := fuel) (n := n) fun args c r h hc => ?_
  cases hd : d.dec args with
  | none => rw [hd] at h; cases h
  | some a =>
    rw [hd] at h
    simp only [Option.map_some, Option.some.injEq, Prod.mk.injEq] at h
    obtain ⟨rfl, rfl⟩ := h
    rw [d.sp args a hd]
    refine ⟨d.fl a, ?_⟩
    rw [hrun, PT.run_val _ dd _ hc, PV.run_val]
    exact subB_flat (hfl _)

theorem fnCT_hard {f : FuncId} {α γ : Type} {d : Dc α} {ok : α → Bool} {val : α → γ} {er : γ → PV} (hfl : ∀ r, flatV (er r).val = true) (h : CTok PP f (fnCT d ok val er)) : CTokE PP true f (fnCT d ok val er) :=
  closedCT_hard h fun args c r h => by
    cases hd : d.dec args with
    | none => rw [hd] at h; cases h
    | some a =>
      rw [hd] at h
      simp only [Option.map_some, Option.some.injEq, Prod.mk.injEq] at h
      obtain ⟨rfl, rfl⟩ := h
      rw [d.sp args a hd]
      exact ⟨d.fl a, hfl _⟩

end Go.Proofs.YteionboacdkfjaaDoor.X
