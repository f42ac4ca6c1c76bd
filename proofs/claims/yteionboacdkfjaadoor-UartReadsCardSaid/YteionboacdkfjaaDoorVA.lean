/-
  UART: a port's state as the executor sees it; fifos, checks, by the program and by the document.
-/
import Derived.Test.YteionboacdkfjaaDoorTB
namespace Go.Proofs.YteionboacdkfjaaDoor.X
set_option linter.unusedVariables false


structure Fi where
  b : Nat → Int
  n : Int

structure Us where
  rx : Fi
  tx : Fi
  ier : Int
  lcr : Int
  mcr : Int
  scr : Int
  dll : Int
  dlm : Int
  ov : Bool
  wt : Int

def encF (f : Fi) : List Seg := [.run .u8 16 f.b, .one (.i .i64 f.n)]
def encT (u : Us) : List Seg := [.one (.i .u8 u.ier), .one (.i .u8 u.lcr), .one (.i .u8 u.mcr), .one (.i .u8 u.scr), .one (.i .u8 u.dll), .one (.i .u8 u.dlm), .one (.b u.ov), .one (.i .i64 u.wt)]
def encU (u : Us) : List Seg := encF u.rx ++ (encF u.tx ++ encT u)

def decFi : List Seg → Option (Fi × List Seg)
  | .run k m b :: .one (.i k' n) :: r => cond (ikEq k .u8 && (Nat.beq m 16 && ikEq k' .i64)) (some (⟨b, n⟩, r)) none
  | _ => none

def decT (rx tx : Fi) : List Seg → Option Us
  | [.one (.i k1 a1), .one (.i k2 a2), .one (.i k3 a3), .one (.i k4 a4), .one (.i k5 a5), .one (.i k6 a6), .one (.b ov), .one (.i k7 wt)] =>
    cond (ikEq k1 .u8 && (ikEq k2 .u8 && (ikEq k3 .u8 && (ikEq k4 .u8 && (ikEq k5 .u8 && (ikEq k6 .u8 && ikEq k7 .i64)))))) (some ⟨rx, tx, a1, a2, a3, a4, a5, a6, ov, wt⟩) none
  | _ => none

def decU (c : List Seg) : Option Us :=
  match decFi c with
  | some (rx, r) => match decFi r with
    | some (tx, r) => decT rx tx r
    | none => none
  | none => none

theorem decFi_spec {c r : List Seg} {f : Fi} (h : decFi c = some (f, r)) : c = encF f ++ r := by
  unfold decFi at h
  split at h
  · simp only [Bool.cond_eq_ite, Bool.and_eq_true, ikEq_iff, beq_iff] at h
    split at h
    · rename_i hc
      obtain ⟨rfl, rfl, rfl⟩ := hc
      simp only [Option.some.injEq, Prod.mk.injEq] at h
      obtain ⟨rfl, rfl⟩ := h
      rfl
    · cases h
  · cases h

theorem decT_spec {c : List Seg} {rx tx : Fi} {u : Us} (h : decT rx tx c = some u) : c = encT u ∧ u.rx = rx ∧ u.tx = tx := by
  unfold decT at h
  split at h
  · simp only [Bool.cond_eq_ite, Bool.and_eq_true, ikEq_iff] at h
    split at h
    · rename_i hc
      obtain ⟨rfl, rfl, rfl, rfl, rfl, rfl, rfl⟩ := hc
      simp only [Option.some.injEq] at h
      subst h
      exact ⟨rfl, rfl, rfl⟩
    · cases h
  · cases h

theorem decU_spec {c : List Seg} {u : Us} (h : decU c = some u) : c = encU u := by
  unfold decU at h
  split at h
  · rename_i rx r h1
    split at h
    · rename_i tx r' h2
      obtain ⟨h3, rfl, rfl⟩ := decT_spec h
      rw [decFi_spec h1, decFi_spec h2, h3]
      rfl
    · cases h
  · cases h

/-- Are so many places from one on nought? -/
def zf (b : Nat → Int) : Nat → Nat → Bool
  | 0, _ => true
  | k + 1, i => b i == 0 && zf b k (i + 1)

theorem zf_succ (b : Nat → Int) (k i : Nat) : zf b (k + 1) i = (b i == 0 && zf b k (i + 1)) := rfl

def mayB (f : Fi) : Bool := decide (0 ≤ f.n) && (decide (f.n ≤ 16) && zf f.b (16 - f.n.toNat) f.n.toNat)

noncomputable def mayD : List V → Option (Bool × PV)
  | [.ag c] => match decFi c with
    | some (f, []) => some (true, .v (.sc (.b (mayB f))))
    | _ => none
  | _ => none

theorem mayD_spec {args : List V} {c : Bool} {r : PV} (h : mayD args = some (c, r)) : ∃ f, args = [.ag (encF f)] ∧ r = .v (.sc (.b (mayB f))) := by
  unfold mayD at h
  split at h
  · split at h
    · rename_i c f h1
      have := decFi_spec h1
      simp only [Option.some.injEq, Prod.mk.injEq] at h
      obtain ⟨_, rfl⟩ := h
      exact ⟨f, by rw [this]; simp, rfl⟩
    · cases h
  · cases h

def mayI (f : Fi) (q : V → Bool) : Nat → Nat → Bool
  | 0, _ => false
  | k + 1, i => cond (decide ((i : Int) < ((16 - f.n.toNat : Nat) : Int))) (cond (decide ((i : Int) < ((16 - f.n.toNat : Nat) : Int))) (cond (Nat.blt (f.n.toNat + i) 16) (cond (f.b (f.n.toNat + i) != 0) (q (.sc (.b false))) (mayI f q k (i + 1))) false) false) (q (.sc (.b true)))
def mayT (f : Fi) (q : V → Bool) : Bool :=
  cond (decide (f.n ≥ 0)) (cond (decide (f.n ≤ 16)) (cond (decide (0 ≤ f.n) && decide (f.n ≤ 16)) (mayI f q 18 0) false) (q (.sc (.b false)))) (q (.sc (.b false)))

set_option maxRecDepth 100000 in
theorem may_run (f : Fi) (q : V → Bool) : go noOver 18 4 26 [.ag (encF f)] q = mayT f q := by kernel_rfl

def rmayI (f : Fi) (q : V → Bool) : Nat → Int → Bool
  | 0, _ => false
  | k + 1, i => cond (decide (i < 16)) (cond (inB i 16) (cond (Nat.blt i.toNat 16) (cond (f.b i.toNat != 0) (q (.sc (.b false))) (rmayI f q k (IntKind.i64.wrap (i + 1)))) false) false) (q (.sc (.b true)))
def rmayT (f : Fi) (q : V → Bool) : Bool :=
  cond (decide (f.n < 0)) (q (.sc (.b false))) (cond (decide (f.n > 16)) (q (.sc (.b false))) (rmayI f q 18 f.n))

set_option maxRecDepth 100000 in
theorem rmay_run (f : Fi) (q : V → Bool) : go noOver 18 4 25 [.ag (encF f)] q = rmayT f q := by kernel_rfl

theorem mayI_spec (f : Fi) (q : V → Bool) (hn : f.n.toNat ≤ 16) : ∀ (k i : Nat), 17 ≤ i + k → i ≤ 16 - f.n.toNat → mayI f q k i = q (.sc (.b (zf f.b (16 - f.n.toNat - i) (f.n.toNat + i))))
  | 0, i, h1, h2 => by omega
  | k + 1, i, h1, h2 => by
    simp only [mayI, Bool.cond_eq_ite, decide_eq_true_eq, blt_iff]
    by_cases hlt : i < 16 - f.n.toNat
    · rw [if_pos (by omega), if_pos (by omega), if_pos (by omega), show 16 - f.n.toNat - i = (16 - f.n.toNat - (i + 1)) + 1 by omega]
      rw [zf_succ]
      by_cases hz : f.b (f.n.toNat + i) = 0
      · rw [if_neg (by simp [hz]), mayI_spec f q hn k (i + 1) (by omega) (by omega)]
        simp [hz, Nat.add_assoc]
      · rw [if_pos (by simp [hz]), beq_eq_false_iff_ne.2 hz]
        rfl
    · rw [if_neg (by omega), show 16 - f.n.toNat - i = 0 by omega]
      rfl

theorem mayT_spec (f : Fi) (q : V → Bool) : mayT f q = q (.sc (.b (mayB f))) := by
  simp only [mayT, mayB, Bool.cond_eq_ite, decide_eq_true_eq, Bool.and_eq_true]
  by_cases h0 : 0 ≤ f.n
  · rw [if_pos h0]
    by_cases h1 : f.n ≤ 16
    · rw [if_pos h1, if_pos ⟨h0, h1⟩, mayI_spec f q (by omega) 18 0 (by omega) (by omega)]
      simp [h0, h1]
    · rw [if_neg h1]
      simp [h1]
  · rw [if_neg h0]
    simp [h0]

theorem rmayI_spec (f : Fi) (q : V → Bool) : ∀ (k : Nat) (i : Int), 0 ≤ i → i ≤ 16 → 17 ≤ i + k → rmayI f q k i = q (.sc (.b (zf f.b (16 - i.toNat) i.toNat)))
  | 0, i, h0, h1, h2 => by omega
  | k + 1, i, h0, h1, h2 => by
    simp only [rmayI, Bool.cond_eq_ite, decide_eq_true_eq, blt_iff, inB, Bool.and_eq_true]
    by_cases hlt : i < 16
    · rw [if_pos hlt, if_pos ⟨h0, by omega⟩, if_pos (by omega), show 16 - i.toNat = (16 - (i + 1).toNat) + 1 by omega]
      rw [zf_succ]
      have hw : IntKind.i64.wrap (i + 1) = i + 1 := wrap_i64_in (by omega) (by omega)
      by_cases hz : f.b i.toNat = 0
      · rw [if_neg (by simp [hz]), hw, rmayI_spec f q k (i + 1) (by omega) (by omega) (by omega), show (i + 1).toNat = i.toNat + 1 by omega]
        simp [hz]
      · rw [if_pos (by simp [hz]), beq_eq_false_iff_ne.2 hz]
        rfl
    · rw [if_neg hlt, show 16 - i.toNat = 0 by omega]
      rfl

theorem rmayT_spec (f : Fi) (q : V → Bool) : rmayT f q = q (.sc (.b (mayB f))) := by
  simp only [rmayT, mayB, Bool.cond_eq_ite, decide_eq_true_eq]
  by_cases h0 : f.n < 0
  · rw [if_pos h0]
    simp [show ¬ (0 ≤ f.n) by omega]
  · rw [if_neg h0]
    by_cases h1 : f.n > 16
    · rw [if_pos h1]
      simp [show ¬ (f.n ≤ 16) by omega]
    · rw [if_neg h1, rmayI_spec f q 18 f.n (by omega) (by omega) (by omega)]
      simp [show 0 ≤ f.n by omega, show f.n ≤ 16 by omega]

theorem may_ok : CTok PP 26 (closedCT mayD) := go_ok noOver_ok (fuel := 18) (n := 4) fun args c r h _ => by
  obtain ⟨f, rfl, rfl⟩ := mayD_spec h
  exact ⟨rfl, by rw [may_run, mayT_spec]; exact subB_flat rfl⟩
theorem rmay_ok : CTok PP 25 (closedCT mayD) := go_ok noOver_ok (fuel := 18) (n := 4) fun args c r h _ => by
  obtain ⟨f, rfl, rfl⟩ := mayD_spec h
  exact ⟨rfl, by rw [rmay_run, rmayT_spec]; exact subB_flat rfl⟩



noncomputable def ov1 : FuncId → Option CT := fun f => cond (Nat.beq f 26 || Nat.beq f 25) (some (closedCT mayD)) none
theorem ov1_ok : ∀ g F, ov1 g = some F → CTok PP g F := fun g F h => by
  simp only [ov1, Bool.cond_eq_ite, Bool.or_eq_true, beq_iff] at h
  split at h
  · rename_i hg
    cases h
    rcases hg with rfl | rfl
    · exact may_ok
    · exact rmay_ok
  · cases h

def okU (u : Us) : Bool := mayB u.rx && (mayB u.tx && (decide (u.ier ≤ 7) && (decide (u.mcr ≤ 31) && (decide (0 ≤ u.wt) && (decide (u.wt ≤ 3) && (u.wt == 0 || u.tx.n != 0))))))

/-- One argument, a state. -/
def oneU (r : Us → Option (Bool × PV)) : List V → Option (Bool × PV)
  | [.ag c] => match decU c with
    | some u => r u
    | none => none
  | _ => none

theorem oneU_spec {r : Us → Option (Bool × PV)} {args : List V} {x : Bool × PV} (h : oneU r args = some x) : ∃ u, args = [.ag (encU u)] ∧ r u = some x := by
  unfold oneU at h
  split at h
  · split at h
    · rename_i u hu
      exact ⟨u, by rw [decU_spec hu], h⟩
    · cases h
  · cases h

/-- A state and a byte. -/
def twoU (r : Us → Int → Option (Bool × PV)) : List V → Option (Bool × PV)
  | [.ag c, .sc (.i k x)] => match decU c with
    | some u => cond (ikEq k .u8) (r u x) none
    | none => none
  | _ => none

theorem twoU_spec {r : Us → Int → Option (Bool × PV)} {args : List V} {x : Bool × PV} (h : twoU r args = some x) : ∃ u b, args = [.ag (encU u), .sc (.i .u8 b)] ∧ r u b = some x := by
  unfold twoU at h
  split at h
  · split at h
    · rename_i u hu
      simp only [Bool.cond_eq_ite, ikEq_iff] at h
      split at h
      · rename_i hk
        subst hk
        exact ⟨u, _, by rw [decU_spec hu], h⟩
      · cases h
    · cases h
  · cases h

def errArg : V := .sc (.ifc 50 (.i .i64 1))
noncomputable def checkD : List V → Option (Bool × PV) := oneU fun u => some (true, .if_ (okU u) (.v (.sc .ni)) (.v errArg))
noncomputable def rcheckD : List V → Option (Bool × PV) := oneU fun u => some (true, .v (.sc (.i .i64 (cond (okU u) 0 1))))
noncomputable def giveD : List V → Option (Bool × PV) := oneU fun u => some (true, .v (.ag (encU u)))

def checkT (u : Us) (q : V → Bool) : Bool :=
  cond (!mayB u.rx) (q errArg) (cond (!mayB u.tx) (q errArg) (cond (decide (u.ier > 7)) (q errArg) (cond (decide (u.mcr > 31)) (q errArg) (cond (decide (u.wt < 0)) (q errArg) (cond (decide (u.wt ≥ 4)) (q errArg)
    (cond (decide (u.wt > 0)) (cond (u.tx.n == 0) (q errArg) (q (.sc .ni))) (q (.sc .ni))))))))

def rcheckT (u : Us) (q : V → Bool) : Bool :=
  let e := q (.sc (.i .i64 1))
  let r := cond (decide (u.ier > 7)) e (cond (decide (u.mcr > 31)) e (q (.sc (.i .i64 0))))
  cond (!mayB u.rx) e (cond (!mayB u.tx) e (cond (decide (u.wt < 0)) e (cond (decide (u.wt > 3)) e (cond (u.tx.n == 0) (cond (u.wt != 0) e r) r))))

set_option maxRecDepth 100000 in
theorem check_run (u : Us) (q : V → Bool) : go ov1 18 4 14 [.ag (encU u)] q = checkT u q := by kernel_rfl
set_option maxRecDepth 100000 in
theorem rcheck_run (u : Us) (q : V → Bool) : go ov1 18 4 12 [.ag (encU u)] q = rcheckT u q := by kernel_rfl
set_option maxRecDepth 100000 in
theorem give_run (u : Us) (q : V → Bool) : go ov1 18 4 6 [.ag (encU u)] q = q (.ag (encU u)) := by kernel_rfl

theorem checkT_spec (u : Us) (q : V → Bool) : checkT u q = q (cond (okU u) (.sc .ni) errArg) := by
  simp only [checkT, okU, Bool.cond_eq_ite]
  cases mayB u.rx <;> cases mayB u.tx <;> simp
  by_cases h1 : u.ier ≤ 7
  · by_cases h2 : u.mcr ≤ 31
    · by_cases h3 : 0 ≤ u.wt
      · by_cases h4 : u.wt ≤ 3
        · by_cases h5 : u.wt = 0
          · simp [h1, h2, h5, show ¬ (7 < u.ier) by omega, show ¬ (31 < u.mcr) by omega]
          · by_cases h6 : u.tx.n = 0
            · simp [h1, h2, h3, h4, h5, h6, show ¬ (7 < u.ier) by omega, show ¬ (31 < u.mcr) by omega, show 0 < u.wt by omega]
            · simp [h1, h2, h3, h4, h5, h6, show ¬ (7 < u.ier) by omega, show ¬ (31 < u.mcr) by omega, show ¬ (u.wt < 0) by omega, show ¬ (4 ≤ u.wt) by omega]
        · simp [h4, show 4 ≤ u.wt by omega]
      · simp [h3, show u.wt < 0 by omega]
    · simp [h2, show 31 < u.mcr by omega]
  · simp [h1, show 7 < u.ier by omega]

theorem rcheckT_spec (u : Us) (q : V → Bool) : rcheckT u q = q (.sc (.i .i64 (cond (okU u) 0 1))) := by
  simp only [rcheckT, okU, Bool.cond_eq_ite]
  cases mayB u.rx <;> cases mayB u.tx <;> simp
  by_cases h1 : u.ier ≤ 7
  · by_cases h2 : u.mcr ≤ 31
    · by_cases h3 : 0 ≤ u.wt
      · by_cases h4 : u.wt ≤ 3
        · by_cases h5 : u.wt = 0
          · simp [h1, h2, h5, show ¬ (7 < u.ier) by omega, show ¬ (31 < u.mcr) by omega]
          · by_cases h6 : u.tx.n = 0
            · simp [h1, h2, h3, h4, h5, h6]
            · simp [h1, h2, h3, h4, h5, h6, show ¬ (7 < u.ier) by omega, show ¬ (31 < u.mcr) by omega, show ¬ (u.wt < 0) by omega, show ¬ (3 < u.wt) by omega]
        · simp [h4, show 3 < u.wt by omega]
      · simp [h3, show u.wt < 0 by omega]
    · simp [h2, show 31 < u.mcr by omega]
  · simp [h1, show 7 < u.ier by omega]

theorem flatU (u : Us) : flatV (.ag (encU u)) = true := rfl

theorem check_ok : CTok PP 14 (closedCT checkD) := go_ok ov1_ok (fuel := 18) (n := 4) fun args c r h _ => by
  obtain ⟨u, rfl, h⟩ := oneU_spec h
  cases h
  refine ⟨rfl, ?_⟩
  rw [check_run, checkT_spec]
  simp only [PV.val]
  exact subB_flat (by cases okU u <;> rfl)
theorem rcheck_ok : CTok PP 12 (closedCT rcheckD) := go_ok ov1_ok (fuel := 18) (n := 4) fun args c r h _ => by
  obtain ⟨u, rfl, h⟩ := oneU_spec h
  cases h
  refine ⟨rfl, ?_⟩
  rw [rcheck_run, rcheckT_spec]
  exact subB_flat rfl
theorem give_ok : CTok PP 6 (closedCT giveD) := go_ok ov1_ok (fuel := 18) (n := 4) fun args c r h _ => by
  obtain ⟨u, rfl, h⟩ := oneU_spec h
  cases h
  refine ⟨rfl, ?_⟩
  rw [give_run]
  exact subB_flat (flatU u)

def sureD : List V → Option (Bool × PV)
  | [] => some (true, .v (.sc (.b true)))
  | _ => none

set_option maxRecDepth 100000 in
theorem sure_run (q : V → Bool) : go noOver 20 8 9 [] q = q (.sc (.b true)) := by kernel_rfl

theorem sure_ok : CTok PP 9 (closedCT sureD) := go_ok noOver_ok (fuel := 20) (n := 8) fun args c r h _ => by
  unfold sureD at h
  split at h
  · cases h
    exact ⟨rfl, by rw [sure_run]; exact subB_flat rfl⟩
  · cases h

noncomputable def ov2 : FuncId → Option CT := fun f => cond (Nat.beq f 14) (some (closedCT checkD)) (cond (Nat.beq f 12) (some (closedCT rcheckD)) (cond (Nat.beq f 6) (some (closedCT giveD)) (cond (Nat.beq f 9) (some (closedCT sureD)) (ov1 f))))
theorem ov2_ok : ∀ g F, ov2 g = some F → CTok PP g F := fun g F h => by
  simp only [ov2, Bool.cond_eq_ite, beq_iff] at h
  split at h
  · rename_i e; cases h; subst e; exact check_ok
  split at h
  · rename_i e; cases h; subst e; exact rcheck_ok
  split at h
  · rename_i e; cases h; subst e; exact give_ok
  split at h
  · rename_i e; cases h; subst e; exact sure_ok
  exact ov1_ok g F h



/-- One fifo. -/
def oneF (r : Fi → Option (Bool × PV)) : List V → Option (Bool × PV)
  | [.ag c] => match decFi c with
    | some (f, []) => r f
    | _ => none
  | _ => none

theorem oneF_spec {r : Fi → Option (Bool × PV)} {args : List V} {x : Bool × PV} (h : oneF r args = some x) : ∃ f, args = [.ag (encF f)] ∧ r f = some x := by
  unfold oneF at h
  split at h
  · split at h
    · rename_i c f h1
      have := decFi_spec h1
      exact ⟨f, by rw [this]; simp, h⟩
    · cases h
  · cases h

def twoF (r : Fi → Int → Option (Bool × PV)) : List V → Option (Bool × PV)
  | [.ag c, .sc (.i k x)] => match decFi c with
    | some (f, []) => cond (ikEq k .u8) (r f x) none
    | _ => none
  | _ => none

theorem twoF_spec {r : Fi → Int → Option (Bool × PV)} {args : List V} {x : Bool × PV} (h : twoF r args = some x) : ∃ f b, args = [.ag (encF f), .sc (.i .u8 b)] ∧ r f b = some x := by
  unfold twoF at h
  split at h
  · split at h
    · rename_i f h1
      simp only [Bool.cond_eq_ite, ikEq_iff] at h
      split at h
      · rename_i hk
        subst hk
        have := decFi_spec h1
        exact ⟨f, _, by rw [this]; simp, h⟩
      · cases h
    · cases h
  · cases h

def putF (f : Fi) (c : Int) : Fi := ⟨fun j => cond (Nat.beq j f.n.toNat) c (f.b j), IntKind.i64.wrap (f.n + 1)⟩
def rtakeF (f : Fi) : Fi := ⟨fun j => cond (decide ((j : Int) + 1 < f.n)) (f.b (j + 1)) 0, IntKind.i64.wrap (f.n - 1)⟩

noncomputable def rtakeD : List V → Option (Bool × PV) := oneF fun f =>
  some (decide (0 ≤ f.n) && decide (f.n ≤ 16), .v (.tu [.ag (encF (cond (f.n == 0) f (rtakeF f))), .sc (.i .u8 (cond (f.n == 0) 0 (f.b 0)))]))
noncomputable def rputD : List V → Option (Bool × PV) := twoF fun f c =>
  some (decide (0 ≤ f.n), .v (.tu [.ag (encF (cond (decide (f.n > 15)) f (putF f c))), .sc (.b (cond (decide (f.n > 15)) false true))]))

def rtakeI (f : Fi) (q : V → Bool) : Nat → Nat → (Nat → Int) → Bool
  | 0, _, _ => false
  | k + 1, i, g => cond (decide ((i : Int) < f.n)) (cond (Nat.blt i 16) (rtakeI f q k (i + 1) (fun j => cond (Nat.beq j (i - 1)) (f.b i) (g j))) false)
    (let x := V.tu [.ag (encF ⟨g, IntKind.i64.wrap (f.n - 1)⟩), .sc (.i .u8 (f.b 0))]
     cond (q x) (q x) false)
def rtakeT (f : Fi) (q : V → Bool) : Bool :=
  cond (f.n == 0) (q (.tu [.ag (encF f), .sc (.i .u8 0)])) (rtakeI f q 18 1 (fun _ => 0))

set_option maxRecDepth 100000 in
theorem rtake_run (f : Fi) (q : V → Bool) : go ov2 18 4 24 [.ag (encF f)] q = rtakeT f q := by kernel_rfl

def rputT (f : Fi) (c : Int) (q : V → Bool) : Bool :=
  cond (decide (f.n > 15)) (q (.tu [.ag (encF f), .sc (.b false)])) (cond (inB f.n 16) (cond (Nat.blt f.n.toNat 16) (q (.tu [.ag (encF (putF f c)), .sc (.b true)])) false) false)
set_option maxRecDepth 100000 in
theorem rput_run (f : Fi) (c : Int) (q : V → Bool) : go ov2 18 4 18 [.ag (encF f), .sc (.i .u8 c)] q = rputT f c q := by kernel_rfl

theorem rtakeI_spec (f : Fi) (q : V → Bool) (h0 : 1 ≤ f.n) (h1 : f.n ≤ 16) : ∀ (k i : Nat) (g : Nat → Int), 17 ≤ i + k → 1 ≤ i → (i : Int) ≤ f.n → (∀ j, g j = cond (decide (j + 1 < i)) (f.b (j + 1)) 0) →
    rtakeI f q k i g = q (.tu [.ag (encF (rtakeF f)), .sc (.i .u8 (f.b 0))])
  | 0, i, g, h2, _, h3, _ => by omega
  | k + 1, i, g, h2, h5, h3, hg => by
    simp only [rtakeI]
    by_cases hlt : (i : Int) < f.n
    · rw [decide_eq_true hlt, cond_true, blt_iff.2 (show i < 16 by omega), cond_true]
      refine rtakeI_spec f q h0 h1 k (i + 1) _ (by omega) (by omega) (by omega) fun j => ?_
      rw [hg]
      simp only [Bool.cond_eq_ite, beq_iff, decide_eq_true_eq]
      by_cases e : j = i - 1
      · rw [if_pos e, if_pos (by omega), show j + 1 = i by omega]
      · rw [if_neg e]
        by_cases q : j + 1 < i
        · rw [if_pos q, if_pos (by omega)]
        · rw [if_neg q, if_neg (by omega)]
    · rw [decide_eq_false hlt, cond_false]
      have hgf : g = (rtakeF f).b := by
        funext j
        rw [hg]
        simp only [rtakeF, Bool.cond_eq_ite, decide_eq_true_eq]
        by_cases q : j + 1 < i
        · rw [if_pos q, if_pos (by omega)]
        · rw [if_neg q, if_neg (by omega)]
      subst hgf
      have key : ∀ b : Bool, cond b b false = b := by decide
      exact key (q (.tu [.ag (encF (rtakeF f)), .sc (.i .u8 (f.b 0))]))

theorem rtake_ok : CTok PP 24 (closedCT rtakeD) := go_ok ov2_ok (fuel := 18) (n := 4) fun args c r h hc => by
  obtain ⟨f, rfl, h⟩ := oneF_spec h
  cases h
  simp only [Bool.and_eq_true, decide_eq_true_eq] at hc
  refine ⟨rfl, ?_⟩
  rw [rtake_run]
  by_cases h0 : f.n = 0
  · simp only [rtakeT, PV.val, beq_iff_eq.2 h0, cond_true]
    exact subB_flat rfl
  · simp only [rtakeT, PV.val, beq_eq_false_iff_ne.2 h0, cond_false]
    rw [rtakeI_spec f _ (by omega) hc.2 18 1 _ (by omega) (by omega) (by omega) (fun j => by simp)]
    exact subB_flat rfl

theorem rput_ok : CTok PP 18 (closedCT rputD) := go_ok ov2_ok (fuel := 18) (n := 4) fun args c r h hc => by
  obtain ⟨f, b, rfl, h⟩ := twoF_spec h
  cases h
  simp only [decide_eq_true_eq] at hc
  refine ⟨rfl, ?_⟩
  rw [rput_run]
  by_cases h0 : f.n > 15
  · simp only [rputT, PV.val, decide_eq_true h0, cond_true]
    exact subB_flat rfl
  · simp only [rputT, PV.val, decide_eq_false h0, cond_false]
    rw [show inB f.n 16 = true from by simp [inB]; omega, show Nat.blt f.n.toNat 16 = true from blt_iff.2 (by omega)]
    exact subB_flat rfl

noncomputable def ov3 : FuncId → Option CT := fun f => cond (Nat.beq f 24) (some (closedCT rtakeD)) (cond (Nat.beq f 18) (some (closedCT rputD)) (ov2 f))
theorem ov3_ok : ∀ g F, ov3 g = some F → CTok PP g F := fun g F h => by
  simp only [ov3, Bool.cond_eq_ite, beq_iff] at h
  split at h
  · rename_i e; cases h; subst e; exact rtake_ok
  split at h
  · rename_i e; cases h; subst e; exact rput_ok
  exact ov2_ok g F h


end Go.Proofs.YteionboacdkfjaaDoor.X
