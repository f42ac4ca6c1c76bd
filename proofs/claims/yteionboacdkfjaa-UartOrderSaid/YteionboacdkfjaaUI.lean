/-
  UART, part I: register 0 written and read, where the latch is off.
-/
import Derived.Test.YteionboacdkfjaaUG
namespace Go.Proofs.Yteionboacdkfjaa.X

def latch (u : Us) : Bool := band u.lcr 128 != 0
def u0 : Us := ⟨⟨fun _ => 0, 0⟩, ⟨fun _ => 0, 0⟩, 0, 0, 0, 0, 0, 0, false, 0⟩

def write0U (u : Us) (v : Int) : Us := cond (u.tx.n == 16) u { u with tx := putF u.tx v }
def write0D : List V → Option (Bool × PV)
  | [.ag c, .sc (.i k at_), .sc (.i k' v)] => match decU c with
    | some u => cond (ikEq k .u32 && (ikEq k' .u8 && decide (at_ = 0))) (some (okU u && !(latch u), .v (.tu [.ag (encU (write0U u v)), .sc .ni]))) none
    | none => none
  | _ => none

def write0T (u : Us) (v : Int) (q : V → Bool) : Bool :=
  let r := fun u : Us => q (.tu [.ag (encU u), .sc .ni])
  cond (okU u) (cond (latch u) (r { u with dll := v }) (cond (u.tx.n == 16) (r u) (cond (inB u.tx.n 16) (cond (Nat.blt u.tx.n.toNat 16) (r { u with tx := putF u.tx v }) false) false))) (q (.tu [.ag (encU u0), errArg]))
set_option maxRecDepth 100000 in
theorem write0_run (u : Us) (v : Int) (q : V → Bool) : go ov4 18 4 13 [.ag (encU u), .sc (.i .u32 0), .sc (.i .u8 v)] q = write0T u v q := by kernel_rfl

theorem write0_ok : CTok Try.prog 13 (closedCT write0D) := go_ok ov4_ok (fuel := 18) (n := 4) fun args c r h hc => by
  unfold write0D at h
  split at h
  rotate_left
  · cases h
  split at h
  rotate_left
  · cases h
  rename_i u hu
  have := decU_spec hu
  subst this
  simp only [Bool.cond_eq_ite, Bool.and_eq_true, ikEq_iff, decide_eq_true_eq] at h
  split at h
  rotate_left
  · cases h
  rename_i hk
  obtain ⟨rfl, rfl, rfl⟩ := hk
  cases h
  simp only [Bool.and_eq_true, Bool.not_eq_true'] at hc
  refine ⟨rfl, ?_⟩
  rw [write0_run]
  obtain ⟨h1, h2, _⟩ := okU_tx hc.1
  simp only [write0T, PV.val, write0U, hc.1, hc.2, cond_true, cond_false]
  by_cases h16 : u.tx.n = 16
  · rw [beq_iff_eq.2 h16]
    exact subB_flat rfl
  · rw [beq_eq_false_iff_ne.2 h16, show inB u.tx.n 16 = true from by simp [inB]; omega, show Nat.blt u.tx.n.toNat 16 = true from blt_iff.2 (by omega)]
    exact subB_flat rfl

def read0U (u : Us) : Us := cond (u.rx.n == 0) u { u with rx := takeF u.rx }
def read0C (u : Us) : Int := cond (u.rx.n == 0) 0 (u.rx.b 0)
def read0D : List V → Option (Bool × PV)
  | [.ag c, .sc (.i k at_)] => match decU c with
    | some u => cond (ikEq k .u32 && decide (at_ = 0)) (some (okU u && !(latch u), .v (.tu [.ag (encU (read0U u)), .sc (.i .u8 (read0C u)), .sc .ni]))) none
    | none => none
  | _ => none

def read0T (u : Us) (q : V → Bool) : Bool :=
  let r := fun (u : Us) (c : Int) => q (.tu [.ag (encU u), .sc (.i .u8 c), .sc .ni])
  cond (okU u) (cond (!(latch u)) (cond (u.rx.n == 0) (r u 0) (r { u with rx := takeF u.rx } (u.rx.b 0))) (r u u.dll)) (q (.tu [.ag (encU u0), .sc (.i .u8 0), errArg]))
set_option maxRecDepth 100000 in
theorem read0_run (u : Us) (q : V → Bool) : go ov4 18 4 14 [.ag (encU u), .sc (.i .u32 0)] q = read0T u q := by kernel_rfl

theorem read0_ok : CTok Try.prog 14 (closedCT read0D) := go_ok ov4_ok (fuel := 18) (n := 4) fun args c r h hc => by
  unfold read0D at h
  split at h
  rotate_left
  · cases h
  split at h
  rotate_left
  · cases h
  rename_i u hu
  have := decU_spec hu
  subst this
  simp only [Bool.cond_eq_ite, Bool.and_eq_true, ikEq_iff, decide_eq_true_eq] at h
  split at h
  rotate_left
  · cases h
  rename_i hk
  obtain ⟨rfl, rfl⟩ := hk
  cases h
  simp only [Bool.and_eq_true, Bool.not_eq_true'] at hc
  refine ⟨rfl, ?_⟩
  rw [read0_run]
  simp only [read0T, PV.val, read0U, read0C, hc.1, hc.2, cond_true, Bool.not_false]
  cases u.rx.n == 0 <;> exact subB_flat rfl

def ov5 : FuncId → Option CT := fun f => cond (Nat.beq f 13) (some (closedCT write0D)) (cond (Nat.beq f 14) (some (closedCT read0D)) (ov4 f))
theorem ov5_ok : ∀ g F, ov5 g = some F → CTok Try.prog g F := fun g F h => by
  simp only [ov5, Bool.cond_eq_ite, beq_iff] at h
  split at h
  · rename_i e; cases h; subst e; exact write0_ok
  split at h
  · rename_i e; cases h; subst e; exact read0_ok
  exact ov4_ok g F h

end Go.Proofs.Yteionboacdkfjaa.X
