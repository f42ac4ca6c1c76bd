/-
  UART, part D: a tick and a byte that comes, by the program and by the document.
-/
import Derived.Test.YteionboacdkfjaaUC
namespace Go.Proofs.Yteionboacdkfjaa.X

def takeF (f : Fi) : Fi := ⟨fun j => cond (Nat.beq j 15) 0 (cond (Nat.ble 0 j && Nat.blt j (0 + 15)) (f.b (1 + (j - 0))) (f.b j)), IntKind.i64.wrap (f.n - 1)⟩

def tickU (u : Us) : Us := cond (okU u) (cond (u.tx.n == 0) u (cond (decide (IntKind.i64.wrap (u.wt + 1) < 4)) { u with wt := IntKind.i64.wrap (u.wt + 1) } { u with wt := 0, tx := takeF u.tx })) u
def tickB (u : Us) : Bool := cond (okU u) (cond (u.tx.n == 0) false (cond (decide (IntKind.i64.wrap (u.wt + 1) < 4)) false true)) false
def tickC (u : Us) : Int := cond (okU u) (cond (u.tx.n == 0) 0 (cond (decide (IntKind.i64.wrap (u.wt + 1) < 4)) 0 (u.tx.b 0))) 0
def tickV (a : Us) (c : Int) (b : Bool) : V := .tu [.ag (encU a), .sc (.i .u8 c), .sc (.b b)]
def tickD : List V → Option (Bool × PV) := oneU fun u => some (true, .v (tickV (tickU u) (tickC u) (tickB u)))

def tickT (u : Us) (q : V → Bool) : Bool :=
  cond (okU u) (cond (u.tx.n == 0) (q (tickV u 0 false)) (cond (decide (IntKind.i64.wrap (u.wt + 1) < 4)) (q (tickV { u with wt := IntKind.i64.wrap (u.wt + 1) } 0 false))
    (cond (u.tx.n == 0) (q (tickV { u with wt := 0 } 0 true)) (q (tickV { u with wt := 0, tx := takeF u.tx } (u.tx.b 0) true))))) (q (tickV u 0 false))
set_option maxRecDepth 100000 in
theorem tick_run (u : Us) (q : V → Bool) : go ov3 18 4 6 [.ag (encU u)] q = tickT u q := by kernel_rfl

theorem tick_ok : CTok Try.prog 6 (closedCT tickD) := go_ok ov3_ok (fuel := 18) (n := 4) fun args c r h _ => by
  obtain ⟨u, rfl, h⟩ := oneU_spec h
  cases h
  refine ⟨rfl, ?_⟩
  rw [tick_run]
  simp only [tickT, PV.val, tickU, tickB, tickC]
  cases okU u <;> simp only [cond_true, cond_false]
  · exact subB_flat rfl
  cases u.tx.n == 0 <;> simp only [cond_true, cond_false]
  · cases decide (IntKind.i64.wrap (u.wt + 1) < 4) <;> simp only [cond_true, cond_false]
    · exact subB_flat rfl
    · exact subB_flat rfl
  · exact subB_flat rfl

def rtickU (u : Us) : Us :=
  let w := (IntKind.i64.wrap (u.wt + 1)).tmod 4
  cond (okU u) (cond (u.tx.n == 0) u (cond (decide (w > 0)) { u with wt := w } { u with wt := w, tx := cond (u.tx.n == 0) u.tx (rtakeF u.tx) })) u
def rtickB (u : Us) : Bool := cond (okU u) (cond (u.tx.n == 0) false (cond (decide ((IntKind.i64.wrap (u.wt + 1)).tmod 4 > 0)) false true)) false
def rtickC (u : Us) : Int := cond (okU u) (cond (u.tx.n == 0) 0 (cond (decide ((IntKind.i64.wrap (u.wt + 1)).tmod 4 > 0)) 0 (cond (u.tx.n == 0) 0 (u.tx.b 0)))) 0
def rtickD : List V → Option (Bool × PV) := oneU fun u => some (true, .v (tickV (rtickU u) (rtickC u) (rtickB u)))

def rtickT (u : Us) (q : V → Bool) : Bool :=
  let w := (IntKind.i64.wrap (u.wt + 1)).tmod 4
  cond ((cond (okU u) (0 : Int) 1) != 0) (q (tickV u 0 false)) (cond (u.tx.n == 0) (q (tickV u 0 false)) (cond (decide (w > 0)) (q (tickV { u with wt := w } 0 false))
    (cond (decide (0 ≤ u.tx.n) && decide (u.tx.n ≤ 16)) (q (tickV { u with wt := w, tx := cond (u.tx.n == 0) u.tx (rtakeF u.tx) } (cond (u.tx.n == 0) 0 (u.tx.b 0)) true)) false)))
set_option maxRecDepth 100000 in
theorem rtick_run (u : Us) (q : V → Bool) : go ov3 18 4 8 [.ag (encU u)] q = rtickT u q := by kernel_rfl

theorem okU_tx {u : Us} (h : okU u = true) : 0 ≤ u.tx.n ∧ u.tx.n ≤ 16 ∧ 0 ≤ u.wt ∧ u.wt ≤ 3 ∧ 0 ≤ u.rx.n ∧ u.rx.n ≤ 16 := by
  simp only [okU, mayB, Bool.and_eq_true, decide_eq_true_eq] at h
  omega

theorem rtick_ok : CTok Try.prog 8 (closedCT rtickD) := go_ok ov3_ok (fuel := 18) (n := 4) fun args c r h _ => by
  obtain ⟨u, rfl, h⟩ := oneU_spec h
  cases h
  refine ⟨rfl, ?_⟩
  rw [rtick_run]
  simp only [rtickT, PV.val, rtickU, rtickB, rtickC]
  cases hok : okU u <;> simp only [cond_true, cond_false]
  · exact subB_flat rfl
  obtain ⟨h1, h2, _⟩ := okU_tx hok
  show cond (u.tx.n == 0) _ _ = true
  cases u.tx.n == 0 <;> simp only [cond_true, cond_false]
  · cases decide ((IntKind.i64.wrap (u.wt + 1)).tmod 4 > 0) <;> simp only [cond_true, cond_false]
    · rw [decide_eq_true h1, decide_eq_true h2]
      exact subB_flat rfl
    · exact subB_flat rfl
  · exact subB_flat rfl

def putU (u : Us) (c : Int) : Us := cond (okU u) (cond (u.rx.n == 16) { u with ov := true } { u with rx := putF u.rx c }) u
def putD' : List V → Option (Bool × PV) := twoU fun u c => some (true, .v (.ag (encU (putU u c))))
def putT (u : Us) (c : Int) (q : V → Bool) : Bool :=
  cond (okU u) (cond (u.rx.n == 16) (q (.ag (encU { u with ov := true }))) (cond (inB u.rx.n 16) (cond (Nat.blt u.rx.n.toNat 16) (q (.ag (encU { u with rx := putF u.rx c }))) false) false)) (q (.ag (encU u)))
set_option maxRecDepth 100000 in
theorem put_run (u : Us) (c : Int) (q : V → Bool) : go ov3 18 4 9 [.ag (encU u), .sc (.i .u8 c)] q = putT u c q := by kernel_rfl

theorem put_ok : CTok Try.prog 9 (closedCT putD') := go_ok ov3_ok (fuel := 18) (n := 4) fun args c r h _ => by
  obtain ⟨u, b, rfl, h⟩ := twoU_spec h
  cases h
  refine ⟨rfl, ?_⟩
  rw [put_run]
  simp only [putT, PV.val, putU]
  cases hok : okU u <;> simp only [cond_true, cond_false]
  · exact subB_flat (flatU u)
  obtain ⟨_, _, _, _, h1, h2⟩ := okU_tx hok
  by_cases h16 : u.rx.n = 16
  · rw [beq_iff_eq.2 h16]
    simp only [cond_true]
    exact subB_flat (flatU _)
  · rw [beq_eq_false_iff_ne.2 h16]
    simp only [cond_false]
    rw [show inB u.rx.n 16 = true from by simp [inB]; omega, show Nat.blt u.rx.n.toNat 16 = true from blt_iff.2 (by omega)]
    exact subB_flat (flatU _)

def rputU (u : Us) (c : Int) : Us := cond (okU u) { u with rx := cond (decide (u.rx.n > 15)) u.rx (putF u.rx c), ov := cond u.ov true (!(cond (decide (u.rx.n > 15)) false true)) } u
def rputD' : List V → Option (Bool × PV) := twoU fun u c => some (true, .v (.ag (encU (rputU u c))))
def rputUT (u : Us) (c : Int) (q : V → Bool) : Bool :=
  let f := cond (decide (u.rx.n > 15)) u.rx (putF u.rx c)
  cond ((cond (okU u) (0 : Int) 1) != 0) (q (.ag (encU u))) (cond (decide (0 ≤ u.rx.n)) (cond u.ov (q (.ag (encU { u with rx := f, ov := true }))) (q (.ag (encU { u with rx := f, ov := !(cond (decide (u.rx.n > 15)) false true) })))) false)
set_option maxRecDepth 100000 in
theorem rputU_run (u : Us) (c : Int) (q : V → Bool) : go ov3 18 4 10 [.ag (encU u), .sc (.i .u8 c)] q = rputUT u c q := by kernel_rfl

theorem rputU_ok : CTok Try.prog 10 (closedCT rputD') := go_ok ov3_ok (fuel := 18) (n := 4) fun args c r h _ => by
  obtain ⟨u, b, rfl, h⟩ := twoU_spec h
  cases h
  refine ⟨rfl, ?_⟩
  rw [rputU_run]
  simp only [rputUT, PV.val, rputU]
  cases hok : okU u <;> simp only [cond_true, cond_false]
  · exact subB_flat (flatU u)
  obtain ⟨_, _, _, _, h1, h2⟩ := okU_tx hok
  rw [decide_eq_true h1]
  show cond u.ov _ _ = true
  cases u.ov <;> exact subB_flat (flatU _)

def ov4 : FuncId → Option CT := fun f => cond (Nat.beq f 6) (some (closedCT tickD)) (cond (Nat.beq f 8) (some (closedCT rtickD)) (cond (Nat.beq f 9) (some (closedCT putD')) (cond (Nat.beq f 10) (some (closedCT rputD')) (ov3 f))))
theorem ov4_ok : ∀ g F, ov4 g = some F → CTok Try.prog g F := fun g F h => by
  simp only [ov4, Bool.cond_eq_ite, beq_iff] at h
  split at h
  · rename_i e; cases h; subst e; exact tick_ok
  split at h
  · rename_i e; cases h; subst e; exact rtick_ok
  split at h
  · rename_i e; cases h; subst e; exact put_ok
  split at h
  · rename_i e; cases h; subst e; exact rputU_ok
  exact ov3_ok g F h

end Go.Proofs.Yteionboacdkfjaa.X
