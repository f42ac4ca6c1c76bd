/-
  UART: asks, reads, writes, by the program and by the document: what each comes to.
-/
import Derived.Test.YteionboacdkfjaaDoorVA
import Derived.Test.YteionboacdkfjaaDoorEA
namespace Go.Proofs.YteionboacdkfjaaDoor.X
set_option linter.unusedVariables false

def decUs : List V → Option Us
  | [.ag c] => decU c
  | _ => none
def decUA : List V → Option (Us × Int)
  | [.ag c, .sc (.i k x)] => match decU c with
    | some u => cond (ikEq k .u32) (some (u, x)) none
    | none => none
  | _ => none
def decUAV : List V → Option (Us × Int × Int)
  | [.ag c, .sc (.i k x), .sc (.i k' y)] => match decU c with
    | some u => cond (ikEq k .u32 && ikEq k' .u8) (some (u, x, y)) none
    | none => none
  | _ => none

def dU : Dc Us := ⟨decUs, fun u => [.ag (encU u)], (fun vs a h => by
  unfold decUs at h
  split at h
  · rw [decU_spec h]
  · cases h), fun _ => rfl⟩
def dUA : Dc (Us × Int) := ⟨decUA, fun a => [.ag (encU a.1), .sc (.i .u32 a.2)], (fun vs a h => by
  unfold decUA at h
  split at h
  · split at h
    · rename_i hu
      simp only [Bool.cond_eq_ite, ikEq_iff] at h
      split at h
      · rename_i hk
        cases h
        rw [hk, decU_spec hu]
      · cases h
    · cases h
  · cases h), fun _ => rfl⟩
def dUAV : Dc (Us × Int × Int) := ⟨decUAV, fun a => [.ag (encU a.1), .sc (.i .u32 a.2.1), .sc (.i .u8 a.2.2)], (fun vs a h => by
  unfold decUAV at h
  split at h
  · split at h
    · rename_i hu
      simp only [Bool.cond_eq_ite, Bool.and_eq_true, ikEq_iff] at h
      split at h
      · rename_i hk
        cases h
        rw [hk.1, hk.2, decU_spec hu]
      · cases h
    · cases h
  · cases h), fun _ => rfl⟩

def askP (u : Us) : PT Bool :=
  (.if_ (okU u)
   (.if_ u.ov
    (.if_ ((andI .u8 u.ier 4) != 0)
     (.v .true)
     (.if_ (decide (u.rx.n > 0))
      (.if_ ((andI .u8 u.ier 1) != 0)
       (.v .true)
       (.if_ (u.tx.n == 0)
        (.if_ ((andI .u8 u.ier 2) != 0)
         (.v .true)
         (.v .false))
        (.v .false)))
      (.if_ (u.tx.n == 0)
       (.if_ ((andI .u8 u.ier 2) != 0)
        (.v .true)
        (.v .false))
       (.v .false))))
    (.if_ (decide (u.rx.n > 0))
     (.if_ ((andI .u8 u.ier 1) != 0)
      (.v .true)
      (.if_ (u.tx.n == 0)
       (.if_ ((andI .u8 u.ier 2) != 0)
        (.v .true)
        (.v .false))
       (.v .false)))
     (.if_ (u.tx.n == 0)
      (.if_ ((andI .u8 u.ier 2) != 0)
       (.v .true)
       (.v .false))
      (.v .false))))
   (.v .false))

def raskP (u : Us) : PT Int :=
  (.if_ u.ov
   (.if_ ((Int.tmod (IntKind.wrap .u8 (Int.tdiv u.ier 4)) 2) == 1)
    (.v 6)
    (.if_ (decide (u.rx.n > 0))
     (.if_ ((Int.tmod u.ier 2) == 1)
      (.v 4)
      (.if_ (u.tx.n == 0)
       (.if_ ((Int.tmod (IntKind.wrap .u8 (Int.tdiv u.ier 2)) 2) == 1)
        (.v 2)
        (.v 1))
       (.v 1)))
     (.if_ (u.tx.n == 0)
      (.if_ ((Int.tmod (IntKind.wrap .u8 (Int.tdiv u.ier 2)) 2) == 1)
       (.v 2)
       (.v 1))
      (.v 1))))
   (.if_ (decide (u.rx.n > 0))
    (.if_ ((Int.tmod u.ier 2) == 1)
     (.v 4)
     (.if_ (u.tx.n == 0)
      (.if_ ((Int.tmod (IntKind.wrap .u8 (Int.tdiv u.ier 2)) 2) == 1)
       (.v 2)
       (.v 1))
      (.v 1)))
    (.if_ (u.tx.n == 0)
     (.if_ ((Int.tmod (IntKind.wrap .u8 (Int.tdiv u.ier 2)) 2) == 1)
      (.v 2)
      (.v 1))
     (.v 1))))

theorem ask_run (u : Us) (q : V → Bool) : go ov3 18 4 15 (dU.enc u) q = (askP u).run fun e => (PV.v (V.sc (.b e))).run q := by kernel_rfl
theorem rask_run (u : Us) (q : V → Bool) : go ov3 18 4 13 (dU.enc u) q = (raskP u).run fun e => (PV.v (V.sc (.i .u8 e))).run q := by kernel_rfl

noncomputable def askCT : CT := fnCT dU (fun u => (askP u).ok) (fun u => (askP u).val false) (fun e => PV.v (V.sc (.b e)))
noncomputable def raskCT : CT := fnCT dU (fun u => (raskP u).ok) (fun u => (raskP u).val 0) (fun e => PV.v (V.sc (.i .u8 e)))
theorem ask_ok : CTok PP 15 askCT := fnCT_ok noOver_hard ov3_ok (fun _ => rfl) ask_run
theorem rask_ok : CTok PP 13 raskCT := fnCT_ok noOver_hard ov3_ok (fun _ => rfl) rask_run

theorem rtake_hard : CTokE PP true 24 (closedCT rtakeD) := closedCT_hard rtake_ok fun args c r h => by
  obtain ⟨f, rfl, h⟩ := oneF_spec h
  cases h
  exact ⟨rfl, rfl⟩
theorem rput_hard : CTokE PP true 18 (closedCT rputD) := closedCT_hard rput_ok fun args c r h => by
  obtain ⟨f, b, rfl, h⟩ := twoF_spec h
  cases h
  exact ⟨rfl, rfl⟩
theorem rcheck_hard : CTokE PP true 12 (closedCT rcheckD) := closedCT_hard rcheck_ok fun args c r h => by
  obtain ⟨u, rfl, h⟩ := oneU_spec h
  cases h
  exact ⟨rfl, rfl⟩
theorem rask_hard : CTokE PP true 13 raskCT := fnCT_hard (fun _ => rfl) rask_ok

/-- The functions that change nothing. -/
noncomputable def so1 : FuncId → Option CT := fun f => cond (Nat.beq f 13) (some raskCT) (cond (Nat.beq f 24) (some (closedCT rtakeD)) (cond (Nat.beq f 18) (some (closedCT rputD)) (cond (Nat.beq f 12) (some (closedCT rcheckD)) none)))
theorem so1_ok : ∀ g F, so1 g = some F → CTokE PP true g F := fun g F h => by
  simp only [so1, Bool.cond_eq_ite, beq_iff] at h
  split at h
  · rename_i e; cases h; subst e; exact rask_hard
  split at h
  · rename_i e; cases h; subst e; exact rtake_hard
  split at h
  · rename_i e; cases h; subst e; exact rput_hard
  split at h
  · rename_i e; cases h; subst e; exact rcheck_hard
  cases h

noncomputable def ov4 : FuncId → Option CT := fun f => cond (Nat.beq f 15) (some askCT) (cond (Nat.beq f 13) (some raskCT) (cond (Nat.beq f 8) (some (closedCT numD)) (ov3 f)))
theorem ov4_ok : ∀ g F, ov4 g = some F → CTok PP g F := fun g F h => by
  simp only [ov4, Bool.cond_eq_ite, beq_iff] at h
  split at h
  · rename_i e; cases h; subst e; exact ask_ok
  split at h
  · rename_i e; cases h; subst e; exact rask_ok
  split at h
  · rename_i e; cases h; subst e; exact num_ok
  exact ov3_ok g F h

end Go.Proofs.YteionboacdkfjaaDoor.X
