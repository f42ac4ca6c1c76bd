/-
  UART, part E: the statement 'UartTicks': the walk, and the plain law.
-/
import Derived.Test.YteionboacdkfjaaUD
namespace Go.Proofs.Yteionboacdkfjaa.X

def eqUB (a b : Us) : Bool := (eqC (encU a) (encU b)).getD false
def vtrue : V → Bool := fun v => match v with
  | .sc (.b x) => x
  | _ => false

def ticksT (u : Us) (c : Int) : Bool :=
  let a := cond (eqUB (putU u c) (rputU u c)) true false
  let i := cond (cond (cond a a false) a false) a false
  let x := cond (eqUB (tickU u) (rtickU u)) (cond (tickC u == rtickC u) (cond (tickB u == rtickB u) i false) false) false
  cond x (cond x x false) false

set_option maxRecDepth 100000 in
theorem ticks_run (u : Us) (c : Int) : go ov4 18 4 3 [.ag (encU u), .sc (.i .u8 c)] vtrue = ticksT u c := by kernel_rfl

/-- The same fifo, as far as it is told. -/
def FiE (f g : Fi) : Prop := f.n = g.n ∧ ∀ j, j < 16 → f.b j = g.b j

structure UsE (a b : Us) : Prop where
  rx : FiE a.rx b.rx
  tx : FiE a.tx b.tx
  ier : a.ier = b.ier
  lcr : a.lcr = b.lcr
  mcr : a.mcr = b.mcr
  scr : a.scr = b.scr
  dll : a.dll = b.dll
  dlm : a.dlm = b.dlm
  ov : a.ov = b.ov
  wt : a.wt = b.wt

theorem FiE.refl (f : Fi) : FiE f f := ⟨rfl, fun _ _ => rfl⟩
theorem UsE.refl (u : Us) : UsE u u := ⟨.refl _, .refl _, rfl, rfl, rfl, rfl, rfl, rfl, rfl, rfl⟩

theorem allN_all (f : Nat → Bool) : ∀ (n : Nat), (∀ j, j < n → f j = true) → allN f n = true
  | 0, _ => rfl
  | n + 1, h => by simp only [allN, Bool.and_eq_true]; exact ⟨allN_all f n (fun j hj => h j (by omega)), h n (by omega)⟩

theorem eqUB_true {a b : Us} (h : UsE a b) : eqUB a b = true := by
  have e1 := allN_all (fun j => a.rx.b j == b.rx.b j) 16 (fun j hj => by simp [h.rx.2 j hj])
  have e2 := allN_all (fun j => a.tx.b j == b.tx.b j) 16 (fun j hj => by simp [h.tx.2 j hj])
  have k : ∀ k : IntKind, ikEq k k = true := fun k => by simp [ikEq]
  have n : Nat.beq 16 16 = true := rfl
  simp only [eqUB, encU, encF, encT, List.cons_append, List.nil_append, eqC, eqS, k, n, Bool.and_self, cond_true, e1, e2, h.rx.1, h.tx.1, h.ier, h.lcr, h.mcr, h.scr, h.dll, h.dlm, h.ov, h.wt, beq_self_eq_true, Option.getD_some, Bool.and_true]

theorem zf_get (b : Nat → Int) : ∀ (k i : Nat), zf b k i = true → ∀ j, i ≤ j → j < i + k → b j = 0
  | 0, i, _, j, h1, h2 => by omega
  | k + 1, i, h, j, h1, h2 => by
    rw [zf_succ, Bool.and_eq_true, beq_iff_eq] at h
    by_cases e : j = i
    · rw [e]; exact h.1
    · exact zf_get b k (i + 1) h.2 j (by omega) (by omega)

theorem mayB_zero {f : Fi} (h : mayB f = true) (j : Nat) (h1 : f.n ≤ j) (h2 : j < 16) : f.b j = 0 := by
  simp only [mayB, Bool.and_eq_true, decide_eq_true_eq] at h
  exact zf_get f.b _ _ h.2.2 j (by omega) (by omega)

theorem okU_may {u : Us} (h : okU u = true) : mayB u.rx = true ∧ mayB u.tx = true := by
  simp only [okU, Bool.and_eq_true] at h
  exact ⟨h.1, h.2.1⟩

theorem take_same {f : Fi} (h : mayB f = true) : FiE (takeF f) (rtakeF f) := by
  refine ⟨rfl, fun j hj => ?_⟩
  simp only [takeF, rtakeF, Bool.cond_eq_ite, beq_iff, Bool.and_eq_true, ble_iff, blt_iff, decide_eq_true_eq]
  by_cases e : j = 15
  · rw [if_pos e, if_neg (by simp only [mayB, Bool.and_eq_true, decide_eq_true_eq] at h; omega)]
  · rw [if_neg e, if_pos (by omega), show 1 + (j - 0) = j + 1 by omega]
    by_cases q : (j : Int) + 1 < f.n
    · rw [if_pos q]
    · rw [if_neg q]
      exact mayB_zero h (j + 1) (by omega) (by omega)

theorem tick_same (u : Us) : UsE (tickU u) (rtickU u) ∧ tickC u = rtickC u ∧ tickB u = rtickB u := by
  simp only [tickU, rtickU, tickC, rtickC, tickB, rtickB]
  cases hok : okU u with
  | false => exact ⟨.refl _, rfl, rfl⟩
  | true =>
    obtain ⟨h1, h2, h3, h4, _⟩ := okU_tx hok
    simp only [cond_true]
    cases hn : u.tx.n == 0 with
    | true => exact ⟨.refl _, rfl, rfl⟩
    | false =>
      simp only [cond_false]
      rw [wrap_i64_in (by omega) (by omega)]
      have hm : (u.wt + 1).tmod 4 = (u.wt + 1) % 4 := Int.tmod_eq_emod_of_nonneg (by omega)
      rw [hm]
      by_cases hw : u.wt + 1 < 4
      · have e : (u.wt + 1) % 4 = u.wt + 1 := by omega
        rw [e, decide_eq_true hw, decide_eq_true (show u.wt + 1 > 0 by omega)]
        exact ⟨.refl _, rfl, rfl⟩
      · have e : (u.wt + 1) % 4 = 0 := by omega
        rw [e, decide_eq_false hw, decide_eq_false (show ¬ ((0 : Int) > 0) by omega)]
        refine ⟨⟨.refl _, ?_, rfl, rfl, rfl, rfl, rfl, rfl, rfl, rfl⟩, rfl, rfl⟩
        exact take_same (okU_may hok).2

theorem put_same (u : Us) (c : Int) : UsE (putU u c) (rputU u c) := by
  simp only [putU, rputU]
  cases hok : okU u with
  | false => exact .refl _
  | true =>
    obtain ⟨_, _, _, _, h1, h2⟩ := okU_tx hok
    simp only [cond_true]
    by_cases h16 : u.rx.n = 16
    · rw [beq_iff_eq.2 h16, decide_eq_true (show u.rx.n > 15 by omega)]
      refine ⟨.refl _, .refl _, rfl, rfl, rfl, rfl, rfl, rfl, ?_, rfl⟩
      show true = cond u.ov true (!(cond true false true))
      cases u.ov <;> rfl
    · rw [beq_eq_false_iff_ne.2 h16, decide_eq_false (show ¬ (u.rx.n > 15) by omega)]
      refine ⟨.refl _, .refl _, rfl, rfl, rfl, rfl, rfl, rfl, ?_, rfl⟩
      show u.ov = cond u.ov true (!(cond false false true))
      cases u.ov <;> rfl

theorem ticks_true (u : Us) (c : Int) : ticksT u c = true := by
  obtain ⟨h1, h2, h3⟩ := tick_same u
  simp only [ticksT, eqUB_true (put_same u c), eqUB_true h1, beq_iff_eq.2 h2, beq_iff_eq.2 h3, cond_true]

/-- The walk's end: a statement's function, called, comes back with 'true', and nothing of what was there has changed. -/
theorem law_calls {over : FuncId → Option CT} (hover : ∀ g F, over g = some F → CTok Try.prog g F) {fuel n : Nat} {f : FuncId} {args : List V} {vals : List Value} {μ : Mu} {A : Nat → Prop} {h : H} {W : World} (hv : VRs μ A args vals) (hE : Env Try.prog μ A h W)
    (hk : bodyF Try.prog (calls Try.prog over (DR Try.prog) fuel n) (DR Try.prog (calls Try.prog over (DR Try.prog) fuel n)) fuel f args h (fun v _ => vtrue v) = true) :
    Calls Try.prog f vals.toArray W fun e W' => e = .returned (.bool true) ∧ ∃ h' μ' A', Leads Try.prog μ A h W μ' A' h' W' := by
  have hΓ := fun g F hg => run_ok (P := Try.prog) mixed hover fuel n g F hg
  refine (body_calls hΓ (DR_ok mixed hΓ) hv hE hk).2.mono fun e W' ⟨x, v, h', μ', A', h1, h2, h3, h4⟩ => ?_
  subst h1
  refine ⟨?_, h', μ', A', h4⟩
  unfold vtrue at h2
  split at h2
  · subst h2
    simp only [VR, SR] at h3
    rw [h3]
  · cases h2

end Go.Proofs.Yteionboacdkfjaa.X
