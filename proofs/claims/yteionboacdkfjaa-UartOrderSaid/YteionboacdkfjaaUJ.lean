/-
  UART, part J: the statement 'UartOrder': the state at the head of its loop, told anew each round.
-/
import Derived.Test.YteionboacdkfjaaUI
import Derived.Test.YteionboacdkfjaaXR
namespace Go.Proofs.Yteionboacdkfjaa.X

structure Row where
  n : Nat
  f : Nat → Int

structure OS where
  len : Nat
  cap : Nat
  g : Nat → Nat → S
  u : Us
  inn : Option Row
  out : Option Row
  ov : Bool
  i : Int

def rowV (id : Nat) : Option Row → V
  | none => .sc (.sl none 0 (.k 0))
  | some r => .sc (.sl (some ⟨id, 0, none⟩) r.n (.g 1))
def rowH (m : T Blk) (id : Nat) : Option Row → T Blk
  | none => m
  | some r => m.set id ⟨[.run .u8 r.n r.f], true, false⟩

/-- The first number that is no package-level variable's. -/
def base : Nat := 0

def canH (o : OS) : H := ⟨rowH (rowH ((T.set (T.set .l base ⟨[.rows o.len 2 o.g], false, true⟩) (base + 1) ⟨encU o.u, false, false⟩)) (base + 2) o.inn) (base + 3) o.out, base + 4, 0⟩
def canFr (o : OS) : T V := ((((((T.l : T V).set 0 (.sc (.sl (some ⟨base, 0, none⟩) o.len (.k o.cap)))).set 3 (.sc (.p (some ⟨base + 1, 0, none⟩)))).set 4 (rowV (base + 2) o.inn)).set 5 (rowV (base + 3) o.out)).set 6 (.sc (.b o.ov))).set 7 (.sc (.i .i64 o.i))
def can (o : OS) : St := ⟨canFr o, 171, canH o⟩

/-- A row as it is told: its block's number, its condition, itself. -/
def rowOf (h : H) (v : V) : Option (Bool × Option (Nat × Row)) :=
  match v with
  | .sc (.sl none 0 (.k 0)) => some (true, none)
  | .sc (.sl (some a) n (.g s)) =>
    match h.m.get a.id with
    | some ⟨[.run k m f], true, false⟩ => cond (ikEq k .u8 && Nat.beq s 1) (some (Nat.ble (a.real + n) m, some (a.id, ⟨n, fun j => f (a.real + j)⟩))) none
    | _ => none
  | _ => none

def apartR : Option (Nat × Row) → Option (Nat × Row) → Bool
  | some (i, _), some (j, _) => !(Nat.beq i j)
  | _, _ => true

def projO (σ : St) : Option (Bool × OS) :=
  match σ.fr.get 0, σ.fr.get 3, σ.fr.get 4, σ.fr.get 5 with
  | some (.sc (.sl (some ⟨ia, 0, none⟩) n (.k cap))), some (.sc (.p (some ⟨is, 0, none⟩))), some v4, some v5 =>
    match σ.fr.get 6, σ.fr.get 7 with
    | some (.sc (.b ov)), some (.sc (.i ki i)) =>
      match σ.h.m.get ia, σ.h.m.get is, rowOf σ.h v4, rowOf σ.h v5 with
      | some ⟨[.rows m 2 g], false, true⟩, some ⟨cs, false, false⟩, some (c4, r4), some (c5, r5) =>
        match decU cs with
        | some u => cond (ikEq ki .i64 && apartR r4 r5) (some (Nat.beq m n && (c4 && c5), ⟨n, cap, g, u, r4.map (·.2), r5.map (·.2), ov, i⟩)) none
        | none => none
      | _, _, _, _ => none
    | _, _ => none
  | _, _, _, _ => none

/-- Behind the loop nothing is told. -/
noncomputable def nilS : St := ⟨.l, 171, hN Try.prog⟩
noncomputable def projQ (σ : St) : Option (Bool × OS) := cond (Nat.beq σ.nt 171) (projO σ) none
noncomputable def finO (e : Ex) (σ : St) : Option (Bool × St) := match e with
  | .exit _ => some (true, ⟨.l, σ.nt, hN Try.prog⟩)
  | _ => none

def hdC : Code → Code
  | .seq a _ => a
  | c => c
def tlC : Code → Code
  | .seq _ b => b
  | c => c
def inC : Code → Code
  | .block _ c => c
  | .loop c => c
  | c => c

noncomputable def orderC : Code := (Try.f5.body).getD .skip
noncomputable def roundC : Code := inC (inC (tlC (hdC (tlC (tlC (tlC (tlC orderC)))))))

noncomputable def lam0 : Code → Option LT := fun _ => none
noncomputable def roundX (o : OS) (q : OS → Bool) (kk : K) : Bool :=
  execL Try.prog (calls Try.prog ov5 (DR Try.prog) 18 3) (DR Try.prog (calls Try.prog ov5 (DR Try.prog) 18 3)) 18 lam0 roundC (can o) (headK projQ finO q kk)

end Go.Proofs.Yteionboacdkfjaa.X
