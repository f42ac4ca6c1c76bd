/-
  UART, part A: a port's state as the executor sees it; whether a fifo may be.
-/
import Derived.Test.YteionboacdkfjaaXO
import Derived.Test.YteionboacdkfjaaProg
namespace Go.Proofs.Yteionboacdkfjaa.X

structure Fi where
  b : Nat → Int
  n : Int

structure Us where
  rx : Fi
  tx : Fi
  ier : Int
  lcr : Int
  mcr : Int
  scr : Int
  dll : Int
  dlm : Int
  ov : Bool
  wt : Int

def encF (f : Fi) : List Seg := [.run .u8 16 f.b, .one (.i .i64 f.n)]
def encT (u : Us) : List Seg := [.one (.i .u8 u.ier), .one (.i .u8 u.lcr), .one (.i .u8 u.mcr), .one (.i .u8 u.scr), .one (.i .u8 u.dll), .one (.i .u8 u.dlm), .one (.b u.ov), .one (.i .i64 u.wt)]
def encU (u : Us) : List Seg := encF u.rx ++ (encF u.tx ++ encT u)

def decFi : List Seg → Option (Fi × List Seg)
  | .run k m b :: .one (.i k' n) :: r => cond (ikEq k .u8 && (Nat.beq m 16 && ikEq k' .i64)) (some (⟨b, n⟩, r)) none
  | _ => none

def decT (rx tx : Fi) : List Seg → Option Us
  | [.one (.i k1 a1), .one (.i k2 a2), .one (.i k3 a3), .one (.i k4 a4), .one (.i k5 a5), .one (.i k6 a6), .one (.b ov), .one (.i k7 wt)] =>
    cond (ikEq k1 .u8 && (ikEq k2 .u8 && (ikEq k3 .u8 && (ikEq k4 .u8 && (ikEq k5 .u8 && (ikEq k6 .u8 && ikEq k7 .i64)))))) (some ⟨rx, tx, a1, a2, a3, a4, a5, a6, ov, wt⟩) none
  | _ => none

def decU (c : List Seg) : Option Us :=
  match decFi c with
  | some (rx, r) => match decFi r with
    | some (tx, r) => decT rx tx r
    | none => none
  | none => none

theorem decFi_spec {c r : List Seg} {f : Fi} (h : decFi c = some (f, r)) : c = encF f ++ r := by
  unfold decFi at h
  split at h
  · simp only [Bool.cond_eq_ite, Bool.and_eq_true, ikEq_iff, beq_iff] at h
    split at h
    · rename_i hc
      obtain ⟨rfl, rfl, rfl⟩ := hc
      simp only [Option.some.injEq, Prod.mk.injEq] at h
      obtain ⟨rfl, rfl⟩ := h
      rfl
    · cases h
  · cases h

theorem decT_spec {c : List Seg} {rx tx : Fi} {u : Us} (h : decT rx tx c = some u) : c = encT u ∧ u.rx = rx ∧ u.tx = tx := by
  unfold decT at h
  split at h
  · simp only [Bool.cond_eq_ite, Bool.and_eq_true, ikEq_iff] at h
    split at h
    · rename_i hc
      obtain ⟨rfl, rfl, rfl, rfl, rfl, rfl, rfl⟩ := hc
      simp only [Option.some.injEq] at h
      subst h
      exact ⟨rfl, rfl, rfl⟩
    · cases h
  · cases h

theorem decU_spec {c : List Seg} {u : Us} (h : decU c = some u) : c = encU u := by
  unfold decU at h
  split at h
  · rename_i rx r h1
    split at h
    · rename_i tx r' h2
      obtain ⟨h3, rfl, rfl⟩ := decT_spec h
      rw [decFi_spec h1, decFi_spec h2, h3]
      rfl
    · cases h
  · cases h

/-- A function by the executor: 'fuel' rounds a loop. -/
noncomputable def go (over : FuncId → Option CT) (fuel n : Nat) (f : FuncId) (args : List V) (k : V → Bool) : Bool :=
  match calls Try.prog over (DR Try.prog) fuel n f with
  | some F => F args (hN Try.prog) (fun v _ => k v)
  | none => false

def noOver : FuncId → Option CT := fun _ => none

theorem mixed : Try.prog.follows .mixedOrders = true := by kernel_rfl

theorem go_ok {over : FuncId → Option CT} (hover : ∀ g F, over g = some F → CTok Try.prog g F) {fuel n : Nat} {f : FuncId} {dec : List V → Option (Bool × PV)}
    (hd : ∀ args c r, dec args = some (c, r) → c = true → flatVs args = true ∧ go over fuel n f args (subB r.val) = true) : CTok Try.prog f (closedCT dec) := by
  intro args h k vals w μ A hv hE hk
  cases hF : calls Try.prog over (DR Try.prog) fuel n f with
  | none =>
    unfold closedCT at hk
    split at hk
    · rename_i c r hdec
      simp only [Bool.cond_eq_ite] at hk
      split at hk
      · rename_i hc
        have := (hd args c r hdec hc).2
        simp [go, hF] at this
      · cases hk
    · cases hk
  | some F =>
    refine closedCT_ok (run_ok mixed hover fuel n f F hF) (dec := dec) (fun args c r h1 h2 => ?_) args h k vals w μ A hv hE hk
    have := hd args c r h1 h2
    simp only [go, hF] at this
    exact this

theorem noOver_ok : ∀ g F, noOver g = some F → CTok Try.prog g F := fun g F h => by cases h

/-- Are so many places from one on nought? -/
def zf (b : Nat → Int) : Nat → Nat → Bool
  | 0, _ => true
  | k + 1, i => b i == 0 && zf b k (i + 1)

theorem zf_succ (b : Nat → Int) (k i : Nat) : zf b (k + 1) i = (b i == 0 && zf b k (i + 1)) := rfl

def mayB (f : Fi) : Bool := decide (0 ≤ f.n) && (decide (f.n ≤ 16) && zf f.b (16 - f.n.toNat) f.n.toNat)

def mayD : List V → Option (Bool × PV)
  | [.ag c] => match decFi c with
    | some (f, []) => some (true, .v (.sc (.b (mayB f))))
    | _ => none
  | _ => none

theorem mayD_spec {args : List V} {c : Bool} {r : PV} (h : mayD args = some (c, r)) : ∃ f, args = [.ag (encF f)] ∧ r = .v (.sc (.b (mayB f))) := by
  unfold mayD at h
  split at h
  · split at h
    · rename_i c f h1
      have := decFi_spec h1
      simp only [Option.some.injEq, Prod.mk.injEq] at h
      obtain ⟨_, rfl⟩ := h
      exact ⟨f, by rw [this]; simp, rfl⟩
    · cases h
  · cases h

def mayI (f : Fi) (q : V → Bool) : Nat → Nat → Bool
  | 0, _ => false
  | k + 1, i => cond (decide ((i : Int) < ((16 - f.n.toNat : Nat) : Int))) (cond (decide ((i : Int) < ((16 - f.n.toNat : Nat) : Int))) (cond (Nat.blt (f.n.toNat + i) 16) (cond (f.b (f.n.toNat + i) != 0) (q (.sc (.b false))) (mayI f q k (i + 1))) false) false) (q (.sc (.b true)))
def mayT (f : Fi) (q : V → Bool) : Bool :=
  cond (decide (f.n ≥ 0)) (cond (decide (f.n ≤ 16)) (cond (decide (0 ≤ f.n) && decide (f.n ≤ 16)) (mayI f q 18 0) false) (q (.sc (.b false)))) (q (.sc (.b false)))

set_option maxRecDepth 100000 in
theorem may_run (f : Fi) (q : V → Bool) : go noOver 18 4 20 [.ag (encF f)] q = mayT f q := by kernel_rfl

def rmayI (f : Fi) (q : V → Bool) : Nat → Int → Bool
  | 0, _ => false
  | k + 1, i => cond (decide (i < 16)) (cond (inB i 16) (cond (Nat.blt i.toNat 16) (cond (f.b i.toNat != 0) (q (.sc (.b false))) (rmayI f q k (IntKind.i64.wrap (i + 1)))) false) false) (q (.sc (.b true)))
def rmayT (f : Fi) (q : V → Bool) : Bool :=
  cond (decide (f.n < 0)) (q (.sc (.b false))) (cond (decide (f.n > 16)) (q (.sc (.b false))) (rmayI f q 18 f.n))

set_option maxRecDepth 100000 in
theorem rmay_run (f : Fi) (q : V → Bool) : go noOver 18 4 24 [.ag (encF f)] q = rmayT f q := by kernel_rfl

theorem mayI_spec (f : Fi) (q : V → Bool) (hn : f.n.toNat ≤ 16) : ∀ (k i : Nat), 17 ≤ i + k → i ≤ 16 - f.n.toNat → mayI f q k i = q (.sc (.b (zf f.b (16 - f.n.toNat - i) (f.n.toNat + i))))
  | 0, i, h1, h2 => by omega
  | k + 1, i, h1, h2 => by
    simp only [mayI, Bool.cond_eq_ite, decide_eq_true_eq, blt_iff]
    by_cases hlt : i < 16 - f.n.toNat
    · rw [if_pos (by omega), if_pos (by omega), if_pos (by omega), show 16 - f.n.toNat - i = (16 - f.n.toNat - (i + 1)) + 1 by omega]
      rw [zf_succ]
      by_cases hz : f.b (f.n.toNat + i) = 0
      · rw [if_neg (by simp [hz]), mayI_spec f q hn k (i + 1) (by omega) (by omega)]
        simp [hz, Nat.add_assoc]
      · rw [if_pos (by simp [hz]), beq_eq_false_iff_ne.2 hz]
        rfl
    · rw [if_neg (by omega), show 16 - f.n.toNat - i = 0 by omega]
      rfl

theorem mayT_spec (f : Fi) (q : V → Bool) : mayT f q = q (.sc (.b (mayB f))) := by
  simp only [mayT, mayB, Bool.cond_eq_ite, decide_eq_true_eq, Bool.and_eq_true]
  by_cases h0 : 0 ≤ f.n
  · rw [if_pos h0]
    by_cases h1 : f.n ≤ 16
    · rw [if_pos h1, if_pos ⟨h0, h1⟩, mayI_spec f q (by omega) 18 0 (by omega) (by omega)]
      simp [h0, h1]
    · rw [if_neg h1]
      simp [h1]
  · rw [if_neg h0]
    simp [h0]

theorem rmayI_spec (f : Fi) (q : V → Bool) : ∀ (k : Nat) (i : Int), 0 ≤ i → i ≤ 16 → 17 ≤ i + k → rmayI f q k i = q (.sc (.b (zf f.b (16 - i.toNat) i.toNat)))
  | 0, i, h0, h1, h2 => by omega
  | k + 1, i, h0, h1, h2 => by
    simp only [rmayI, Bool.cond_eq_ite, decide_eq_true_eq, blt_iff, inB, Bool.and_eq_true]
    by_cases hlt : i < 16
    · rw [if_pos hlt, if_pos ⟨h0, by omega⟩, if_pos (by omega), show 16 - i.toNat = (16 - (i + 1).toNat) + 1 by omega]
      rw [zf_succ]
      have hw : IntKind.i64.wrap (i + 1) = i + 1 := wrap_i64_in (by omega) (by omega)
      by_cases hz : f.b i.toNat = 0
      · rw [if_neg (by simp [hz]), hw, rmayI_spec f q k (i + 1) (by omega) (by omega) (by omega), show (i + 1).toNat = i.toNat + 1 by omega]
        simp [hz]
      · rw [if_pos (by simp [hz]), beq_eq_false_iff_ne.2 hz]
        rfl
    · rw [if_neg hlt, show 16 - i.toNat = 0 by omega]
      rfl

theorem rmayT_spec (f : Fi) (q : V → Bool) : rmayT f q = q (.sc (.b (mayB f))) := by
  simp only [rmayT, mayB, Bool.cond_eq_ite, decide_eq_true_eq]
  by_cases h0 : f.n < 0
  · rw [if_pos h0]
    simp [show ¬ (0 ≤ f.n) by omega]
  · rw [if_neg h0]
    by_cases h1 : f.n > 16
    · rw [if_pos h1]
      simp [show ¬ (f.n ≤ 16) by omega]
    · rw [if_neg h1, rmayI_spec f q 18 f.n (by omega) (by omega) (by omega)]
      simp [show 0 ≤ f.n by omega, show f.n ≤ 16 by omega]

theorem may_ok : CTok Try.prog 20 (closedCT mayD) := go_ok noOver_ok (fuel := 18) (n := 4) fun args c r h _ => by
  obtain ⟨f, rfl, rfl⟩ := mayD_spec h
  exact ⟨rfl, by rw [may_run, mayT_spec]; exact subB_flat rfl⟩
theorem rmay_ok : CTok Try.prog 24 (closedCT mayD) := go_ok noOver_ok (fuel := 18) (n := 4) fun args c r h _ => by
  obtain ⟨f, rfl, rfl⟩ := mayD_spec h
  exact ⟨rfl, by rw [rmay_run, rmayT_spec]; exact subB_flat rfl⟩

end Go.Proofs.Yteionboacdkfjaa.X
