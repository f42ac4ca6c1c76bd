/-
  UART, part B: what a state may be; the same state as the document's and as the program's.
-/
import Derived.Test.YteionboacdkfjaaUA
namespace Go.Proofs.Yteionboacdkfjaa.X

def ov1 : FuncId → Option CT := fun f => cond (Nat.beq f 20 || Nat.beq f 24) (some (closedCT mayD)) none
theorem ov1_ok : ∀ g F, ov1 g = some F → CTok Try.prog g F := fun g F h => by
  simp only [ov1, Bool.cond_eq_ite, Bool.or_eq_true, beq_iff] at h
  split at h
  · rename_i hg
    cases h
    rcases hg with rfl | rfl
    · exact may_ok
    · exact rmay_ok
  · cases h

def okU (u : Us) : Bool := mayB u.rx && (mayB u.tx && (decide (u.ier ≤ 7) && (decide (u.mcr ≤ 31) && (decide (0 ≤ u.wt) && (decide (u.wt ≤ 3) && (u.wt == 0 || u.tx.n != 0))))))

/-- One argument, a state. -/
def oneU (r : Us → Option (Bool × PV)) : List V → Option (Bool × PV)
  | [.ag c] => match decU c with
    | some u => r u
    | none => none
  | _ => none

theorem oneU_spec {r : Us → Option (Bool × PV)} {args : List V} {x : Bool × PV} (h : oneU r args = some x) : ∃ u, args = [.ag (encU u)] ∧ r u = some x := by
  unfold oneU at h
  split at h
  · split at h
    · rename_i u hu
      exact ⟨u, by rw [decU_spec hu], h⟩
    · cases h
  · cases h

/-- A state and a byte. -/
def twoU (r : Us → Int → Option (Bool × PV)) : List V → Option (Bool × PV)
  | [.ag c, .sc (.i k x)] => match decU c with
    | some u => cond (ikEq k .u8) (r u x) none
    | none => none
  | _ => none

theorem twoU_spec {r : Us → Int → Option (Bool × PV)} {args : List V} {x : Bool × PV} (h : twoU r args = some x) : ∃ u b, args = [.ag (encU u), .sc (.i .u8 b)] ∧ r u b = some x := by
  unfold twoU at h
  split at h
  · split at h
    · rename_i u hu
      simp only [Bool.cond_eq_ite, ikEq_iff] at h
      split at h
      · rename_i hk
        subst hk
        exact ⟨u, _, by rw [decU_spec hu], h⟩
      · cases h
    · cases h
  · cases h

def errArg : V := .sc (.ifc 62 (.i .i64 1))
def checkD : List V → Option (Bool × PV) := oneU fun u => some (true, .if_ (okU u) (.v (.sc .ni)) (.v errArg))
def rcheckD : List V → Option (Bool × PV) := oneU fun u => some (true, .v (.sc (.i .i64 (cond (okU u) 0 1))))
def giveD : List V → Option (Bool × PV) := oneU fun u => some (true, .v (.ag (encU u)))

def checkT (u : Us) (q : V → Bool) : Bool :=
  cond (!mayB u.rx) (q errArg) (cond (!mayB u.tx) (q errArg) (cond (decide (u.ier > 7)) (q errArg) (cond (decide (u.mcr > 31)) (q errArg) (cond (decide (u.wt < 0)) (q errArg) (cond (decide (u.wt ≥ 4)) (q errArg)
    (cond (decide (u.wt > 0)) (cond (u.tx.n == 0) (q errArg) (q (.sc .ni))) (q (.sc .ni))))))))

def rcheckT (u : Us) (q : V → Bool) : Bool :=
  let e := q (.sc (.i .i64 1))
  let r := cond (decide (u.ier > 7)) e (cond (decide (u.mcr > 31)) e (q (.sc (.i .i64 0))))
  cond (!mayB u.rx) e (cond (!mayB u.tx) e (cond (decide (u.wt < 0)) e (cond (decide (u.wt > 3)) e (cond (u.tx.n == 0) (cond (u.wt != 0) e r) r))))

set_option maxRecDepth 100000 in
theorem check_run (u : Us) (q : V → Bool) : go ov1 18 4 12 [.ag (encU u)] q = checkT u q := by kernel_rfl
set_option maxRecDepth 100000 in
theorem rcheck_run (u : Us) (q : V → Bool) : go ov1 18 4 16 [.ag (encU u)] q = rcheckT u q := by kernel_rfl
set_option maxRecDepth 100000 in
theorem give_run (u : Us) (q : V → Bool) : go ov1 18 4 7 [.ag (encU u)] q = q (.ag (encU u)) := by kernel_rfl

theorem checkT_spec (u : Us) (q : V → Bool) : checkT u q = q (cond (okU u) (.sc .ni) errArg) := by
  simp only [checkT, okU, Bool.cond_eq_ite]
  cases mayB u.rx <;> cases mayB u.tx <;> simp
  by_cases h1 : u.ier ≤ 7
  · by_cases h2 : u.mcr ≤ 31
    · by_cases h3 : 0 ≤ u.wt
      · by_cases h4 : u.wt ≤ 3
        · by_cases h5 : u.wt = 0
          · simp [h1, h2, h5, show ¬ (7 < u.ier) by omega, show ¬ (31 < u.mcr) by omega]
          · by_cases h6 : u.tx.n = 0
            · simp [h1, h2, h3, h4, h5, h6, show ¬ (7 < u.ier) by omega, show ¬ (31 < u.mcr) by omega, show 0 < u.wt by omega]
            · simp [h1, h2, h3, h4, h5, h6, show ¬ (7 < u.ier) by omega, show ¬ (31 < u.mcr) by omega, show ¬ (u.wt < 0) by omega, show ¬ (4 ≤ u.wt) by omega]
        · simp [h4, show 4 ≤ u.wt by omega]
      · simp [h3, show u.wt < 0 by omega]
    · simp [h2, show 31 < u.mcr by omega]
  · simp [h1, show 7 < u.ier by omega]

theorem rcheckT_spec (u : Us) (q : V → Bool) : rcheckT u q = q (.sc (.i .i64 (cond (okU u) 0 1))) := by
  simp only [rcheckT, okU, Bool.cond_eq_ite]
  cases mayB u.rx <;> cases mayB u.tx <;> simp
  by_cases h1 : u.ier ≤ 7
  · by_cases h2 : u.mcr ≤ 31
    · by_cases h3 : 0 ≤ u.wt
      · by_cases h4 : u.wt ≤ 3
        · by_cases h5 : u.wt = 0
          · simp [h1, h2, h5, show ¬ (7 < u.ier) by omega, show ¬ (31 < u.mcr) by omega]
          · by_cases h6 : u.tx.n = 0
            · simp [h1, h2, h3, h4, h5, h6]
            · simp [h1, h2, h3, h4, h5, h6, show ¬ (7 < u.ier) by omega, show ¬ (31 < u.mcr) by omega, show ¬ (u.wt < 0) by omega, show ¬ (3 < u.wt) by omega]
        · simp [h4, show 3 < u.wt by omega]
      · simp [h3, show u.wt < 0 by omega]
    · simp [h2, show 31 < u.mcr by omega]
  · simp [h1, show 7 < u.ier by omega]

theorem flatU (u : Us) : flatV (.ag (encU u)) = true := rfl

theorem check_ok : CTok Try.prog 12 (closedCT checkD) := go_ok ov1_ok (fuel := 18) (n := 4) fun args c r h _ => by
  obtain ⟨u, rfl, h⟩ := oneU_spec h
  cases h
  refine ⟨rfl, ?_⟩
  rw [check_run, checkT_spec]
  simp only [PV.val]
  exact subB_flat (by cases okU u <;> rfl)
theorem rcheck_ok : CTok Try.prog 16 (closedCT rcheckD) := go_ok ov1_ok (fuel := 18) (n := 4) fun args c r h _ => by
  obtain ⟨u, rfl, h⟩ := oneU_spec h
  cases h
  refine ⟨rfl, ?_⟩
  rw [rcheck_run, rcheckT_spec]
  exact subB_flat rfl
theorem give_ok : CTok Try.prog 7 (closedCT giveD) := go_ok ov1_ok (fuel := 18) (n := 4) fun args c r h _ => by
  obtain ⟨u, rfl, h⟩ := oneU_spec h
  cases h
  refine ⟨rfl, ?_⟩
  rw [give_run]
  exact subB_flat (flatU u)

def sureD : List V → Option (Bool × PV)
  | [] => some (true, .v (.sc (.b true)))
  | _ => none

set_option maxRecDepth 100000 in
theorem sure_run (q : V → Bool) : go noOver 20 8 11 [] q = q (.sc (.b true)) := by kernel_rfl

theorem sure_ok : CTok Try.prog 11 (closedCT sureD) := go_ok noOver_ok (fuel := 20) (n := 8) fun args c r h _ => by
  unfold sureD at h
  split at h
  · cases h
    exact ⟨rfl, by rw [sure_run]; exact subB_flat rfl⟩
  · cases h

def ov2 : FuncId → Option CT := fun f =>
  cond (Nat.beq f 12) (some (closedCT checkD)) (cond (Nat.beq f 16) (some (closedCT rcheckD)) (cond (Nat.beq f 7) (some (closedCT giveD)) (cond (Nat.beq f 11) (some (closedCT sureD)) (ov1 f))))
theorem ov2_ok : ∀ g F, ov2 g = some F → CTok Try.prog g F := fun g F h => by
  simp only [ov2, Bool.cond_eq_ite, beq_iff] at h
  split at h
  · rename_i e; cases h; subst e; exact check_ok
  split at h
  · rename_i e; cases h; subst e; exact rcheck_ok
  split at h
  · rename_i e; cases h; subst e; exact give_ok
  split at h
  · rename_i e; cases h; subst e; exact sure_ok
  exact ov1_ok g F h

end Go.Proofs.Yteionboacdkfjaa.X
