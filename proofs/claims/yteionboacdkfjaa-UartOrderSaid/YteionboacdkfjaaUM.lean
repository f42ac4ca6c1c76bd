/-
  UART, part M: the plain law of 'UartOrder': a round keeps what is told at the loop's head.
-/
import Derived.Test.YteionboacdkfjaaUL
namespace Go.Proofs.Yteionboacdkfjaa.X

def rl : Option Row → Nat
  | none => 0
  | some r => r.n
def rf : Option Row → Nat → Int
  | none, _ => 0
  | some r, j => r.f j

structure InvO (o : OS) : Prop where
  ok : okU o.u = true
  lat : latch o.u = false
  rx : o.u.rx.n = (rl o.inn : Int)
  tx : o.u.tx.n = (rl o.out : Int)
  rb : ∀ j, j < rl o.inn → o.u.rx.b j = rf o.inn j
  tb : ∀ j, j < rl o.out → o.u.tx.b j = rf o.out j
  ov : o.u.ov = o.ov

theorem zf_all (b : Nat → Int) : ∀ (k i : Nat), (∀ j, i ≤ j → j < i + k → b j = 0) → zf b k i = true
  | 0, i, _ => rfl
  | k + 1, i, h => by
    rw [zf_succ, Bool.and_eq_true, beq_iff_eq]
    exact ⟨h i (by omega) (by omega), zf_all b k (i + 1) fun j h1 h2 => h j (by omega) (by omega)⟩

theorem mayB_iff {f : Fi} : mayB f = true ↔ 0 ≤ f.n ∧ f.n ≤ 16 ∧ ∀ j : Nat, f.n ≤ j → j < 16 → f.b j = 0 := by
  constructor
  · intro h
    refine ⟨?_, ?_, fun j h1 h2 => mayB_zero h j h1 h2⟩
    · simp only [mayB, Bool.and_eq_true, decide_eq_true_eq] at h; exact h.1
    · simp only [mayB, Bool.and_eq_true, decide_eq_true_eq] at h; exact h.2.1
  · intro ⟨h1, h2, h3⟩
    simp only [mayB, Bool.and_eq_true, decide_eq_true_eq]
    exact ⟨h1, h2, zf_all _ _ _ fun j h4 h5 => h3 j (by omega) (by omega)⟩

theorem okU_iff {u : Us} : okU u = true ↔ mayB u.rx = true ∧ mayB u.tx = true ∧ u.ier ≤ 7 ∧ u.mcr ≤ 31 ∧ 0 ≤ u.wt ∧ u.wt ≤ 3 ∧ (u.wt = 0 ∨ u.tx.n ≠ 0) := by
  simp only [okU, Bool.and_eq_true, decide_eq_true_eq, Bool.or_eq_true, beq_iff_eq, bne_iff_ne, ne_eq]

theorem may_putF {f : Fi} (h : mayB f = true) (hn : f.n < 16) (c : Int) : mayB (putF f c) = true ∧ (putF f c).n = f.n + 1 ∧ ∀ j : Nat, (putF f c).b j = if (j : Int) = f.n then c else f.b j := by
  obtain ⟨h1, h2, h3⟩ := mayB_iff.1 h
  have e : (putF f c).n = f.n + 1 := by simp only [putF]; exact wrap_i64_in (by omega) (by omega)
  have g : ∀ j : Nat, (putF f c).b j = if (j : Int) = f.n then c else f.b j := fun j => by
    simp only [putF, Bool.cond_eq_ite, beq_iff]
    by_cases q : j = f.n.toNat
    · rw [if_pos q, if_pos (by omega)]
    · rw [if_neg q, if_neg (by omega)]
  refine ⟨mayB_iff.2 ⟨by omega, by omega, fun j h4 h5 => ?_⟩, e, g⟩
  rw [g, if_neg (by omega)]
  exact h3 j (by omega) h5

theorem may_takeF {f : Fi} (h : mayB f = true) (hn : 0 < f.n) : mayB (takeF f) = true ∧ (takeF f).n = f.n - 1 ∧ ∀ j : Nat, j < 15 → (takeF f).b j = f.b (1 + j) := by
  obtain ⟨h1, h2, h3⟩ := mayB_iff.1 h
  have e : (takeF f).n = f.n - 1 := by simp only [takeF]; exact wrap_i64_in (by omega) (by omega)
  have g : ∀ j : Nat, j < 15 → (takeF f).b j = f.b (1 + j) := fun j hj => by
    simp only [takeF, Bool.cond_eq_ite, beq_iff, Bool.and_eq_true, ble_iff, blt_iff]
    rw [if_neg (by omega), if_pos (by omega), Nat.sub_zero]
  refine ⟨mayB_iff.2 ⟨by omega, by omega, fun j h4 h5 => ?_⟩, e, g⟩
  by_cases q : j = 15
  · simp only [takeF, Bool.cond_eq_ite, beq_iff]
    rw [if_pos q]
  · rw [g j (by omega)]
    exact h3 (1 + j) (by omega) (by omega)

/-- What one of the calls makes of a port: its fifos' lengths, and that it may be. -/
structure Made (u v : Us) (a b : Int) (o : Bool) : Prop where
  ok : okU v = true
  lat : latch v = latch u
  rx : v.rx.n = a
  tx : v.tx.n = b
  ov : v.ov = o

theorem put_room {u : Us} (h : okU u = true) (hn : u.rx.n < 16) (c : Int) : Made u (putU u c) (u.rx.n + 1) u.tx.n u.ov ∧ (putU u c).tx = u.tx ∧ ∀ j : Nat, (putU u c).rx.b j = if (j : Int) = u.rx.n then c else u.rx.b j := by
  obtain ⟨h1, h2, h3⟩ := okU_iff.1 h
  obtain ⟨p1, p2, p3⟩ := may_putF h1 hn c
  have e : putU u c = { u with rx := putF u.rx c } := by
    simp only [putU, h, cond_true, show (u.rx.n == 16) = false from by simp; omega, cond_false]
  rw [e]
  exact ⟨⟨okU_iff.2 ⟨p1, h2, h3⟩, rfl, p2, rfl, rfl⟩, rfl, p3⟩

theorem put_full {u : Us} (h : okU u = true) (hn : u.rx.n = 16) (c : Int) : Made u (putU u c) u.rx.n u.tx.n true ∧ (putU u c).tx = u.tx ∧ (putU u c).rx = u.rx := by
  have e : putU u c = { u with ov := true } := by
    simp only [putU, h, cond_true, show (u.rx.n == 16) = true from by simp [hn]]
  rw [e]
  exact ⟨⟨h, rfl, rfl, rfl, rfl⟩, rfl, rfl⟩

theorem write_room {u : Us} (h : okU u = true) (hn : u.tx.n < 16) (c : Int) : Made u (write0U u c) u.rx.n (u.tx.n + 1) u.ov ∧ (write0U u c).rx = u.rx ∧ ∀ j : Nat, (write0U u c).tx.b j = if (j : Int) = u.tx.n then c else u.tx.b j := by
  obtain ⟨h1, h2, h3, h4, h5, h6, h7⟩ := okU_iff.1 h
  obtain ⟨p1, p2, p3⟩ := may_putF h2 hn c
  have hn0 := (mayB_iff.1 h2).1
  have e : write0U u c = { u with tx := putF u.tx c } := by
    simp only [write0U, show (u.tx.n == 16) = false from by simp; omega, cond_false]
  rw [e]
  exact ⟨⟨okU_iff.2 ⟨h1, p1, h3, h4, h5, h6, .inr (by show (putF u.tx c).n ≠ 0; omega)⟩, rfl, rfl, p2, rfl⟩, rfl, p3⟩

theorem write_full {u : Us} (h : okU u = true) (hn : u.tx.n = 16) (c : Int) : write0U u c = u := by
  simp only [write0U, show (u.tx.n == 16) = true from by simp [hn], cond_true]

theorem read_some {u : Us} (h : okU u = true) (hn : 0 < u.rx.n) : Made u (read0U u) (u.rx.n - 1) u.tx.n u.ov ∧ (read0U u).tx = u.tx ∧ read0C u = u.rx.b 0 ∧ ∀ j : Nat, j < 15 → (read0U u).rx.b j = u.rx.b (1 + j) := by
  obtain ⟨h1, h2, h3⟩ := okU_iff.1 h
  obtain ⟨p1, p2, p3⟩ := may_takeF h1 hn
  have z : (u.rx.n == 0) = false := by simp; omega
  have e : read0U u = { u with rx := takeF u.rx } := by
    simp only [read0U, z, cond_false]
  rw [e]
  exact ⟨⟨okU_iff.2 ⟨p1, h2, h3⟩, rfl, p2, rfl, rfl⟩, rfl, by simp only [read0C, z, cond_false], p3⟩

theorem read_none {u : Us} (hn : u.rx.n = 0) : read0U u = u ∧ read0C u = 0 := by
  have z : (u.rx.n == 0) = true := by simp [hn]
  exact ⟨by simp only [read0U, z, cond_true], by simp only [read0C, z, cond_true]⟩

theorem tick_none {u : Us} (h : okU u = true) (hn : u.tx.n = 0) : tickU u = u ∧ tickB u = false := by
  have z : (u.tx.n == 0) = true := by simp [hn]
  exact ⟨by simp only [tickU, z, h, cond_true], by simp only [tickB, z, h, cond_true]⟩

theorem tick_wait {u : Us} (h : okU u = true) (hn : 0 < u.tx.n) (hw : u.wt < 3) : Made u (tickU u) u.rx.n u.tx.n u.ov ∧ (tickU u).rx = u.rx ∧ (tickU u).tx = u.tx ∧ tickB u = false := by
  obtain ⟨h1, h2, h3, h4, h5, h6, h7⟩ := okU_iff.1 h
  have z : (u.tx.n == 0) = false := by simp; omega
  have w : IntKind.i64.wrap (u.wt + 1) = u.wt + 1 := wrap_i64_in (by omega) (by omega)
  have l : decide (u.wt + 1 < 4) = true := decide_eq_true (by omega)
  have e : tickU u = { u with wt := u.wt + 1 } := by simp only [tickU, z, h, w, l, cond_true, cond_false]
  have b : tickB u = false := by simp only [tickB, z, h, w, l, cond_true, cond_false]
  rw [e, b]
  exact ⟨⟨okU_iff.2 ⟨h1, h2, h3, h4, by show 0 ≤ u.wt + 1; omega, by show u.wt + 1 ≤ 3; omega, .inr (by show u.tx.n ≠ 0; omega)⟩, rfl, rfl, rfl, rfl⟩, rfl, rfl, rfl⟩

theorem tick_out {u : Us} (h : okU u = true) (hn : 0 < u.tx.n) (hw : u.wt = 3) : Made u (tickU u) u.rx.n (u.tx.n - 1) u.ov ∧ (tickU u).rx = u.rx ∧ tickB u = true ∧ tickC u = u.tx.b 0 ∧ ∀ j : Nat, j < 15 → (tickU u).tx.b j = u.tx.b (1 + j) := by
  obtain ⟨h1, h2, h3, h4, h5, h6, h7⟩ := okU_iff.1 h
  obtain ⟨p1, p2, p3⟩ := may_takeF h2 hn
  have z : (u.tx.n == 0) = false := by simp; omega
  have w : IntKind.i64.wrap (u.wt + 1) = u.wt + 1 := wrap_i64_in (by omega) (by omega)
  have l : decide (u.wt + 1 < 4) = false := decide_eq_false (by omega)
  have e : tickU u = { u with wt := 0, tx := takeF u.tx } := by simp only [tickU, z, h, w, l, cond_true, cond_false]
  have b : tickB u = true := by simp only [tickB, z, h, w, l, cond_true, cond_false]
  have c : tickC u = u.tx.b 0 := by simp only [tickC, z, h, w, l, cond_true, cond_false]
  rw [e, b, c]
  exact ⟨⟨okU_iff.2 ⟨h1, p1, h3, h4, by show (0 : Int) ≤ 0; omega, by show (0 : Int) ≤ 3; omega, .inl rfl⟩, rfl, rfl, p2, rfl⟩, rfl, rfl, rfl, p3⟩

theorem kap_cases (k : Nat → Int) (i : Int) : kap k i = 0 ∨ kap k i = 1 ∨ kap k i = 2 ∨ kap k i = 3 ∨ kap k i = 4 ∨ (kap k i ≠ 0 ∧ kap k i ≠ 1 ∧ kap k i ≠ 2 ∧ kap k i ≠ 3 ∧ kap k i ≠ 4) := by omega

end Go.Proofs.Yteionboacdkfjaa.X
