/-
  UART, part O: each round of 'UartOrder' keeps what is told at the loop's head, or ends it.
-/
import Derived.Test.YteionboacdkfjaaUN
namespace Go.Proofs.Yteionboacdkfjaa.X

set_option maxRecDepth 100000 in
set_option maxHeartbeats 2000000 in
theorem roundSN_put0 {L cp : Nat} {k c : Nat → Int} {u : Us} {r1 r2 : Row} {i : Int} {q : OS → Bool} {kk : K} (hu : okU u = true) (hl : latch u = false) (hrx : u.rx.n = (rl (some r1) : Int)) (htx : u.tx.n = (rl none : Int)) (hrb : ∀ j, j < rl (some r1) → u.rx.b j = rf (some r1) j) (htb : ∀ j, j < rl none → u.tx.b j = rf none j) (h0 : 0 ≤ i) (hL : i < (L : Int)) (h2 : i < 200)
    (hq : ∀ o, InvO o → o.i = i + 1 → o.len = L → o.cap = cp → o.g = mkg k c → q o = true) (hk : kap k i = 0) (hn : u.rx.n < 16) : roundSN L cp k c u r1 r2 u.ov i q kk = true := by
  simp only [rl] at hrx htx hrb htb
  have m1 := okU_may hu
  obtain ⟨a1, a2, _⟩ := mayB_iff.1 m1.1
  obtain ⟨b1, b2, _⟩ := mayB_iff.1 m1.2
  have g1 := decide_eq_true hL
  have g2 := decide_eq_true h2
  have g3 : inB i L = true := by simp [inB, h0, hL]
  have g4 : Nat.blt i.toNat L = true := blt_iff.2 (by omega)
  have g5 : ((okU u) && (!(latch u))) = true := by rw [hu, hl]; rfl
  have g6 := wrap_next h0 h2
  have k0 : (kap k i == 0) = true := beqT hk
  have k1 : (kap k i == 1) = false := beqF (by omega)
  have k2 : (kap k i == 2) = false := beqF (by omega)
  have k3 : (kap k i == 3) = false := beqF (by omega)
  have k4 : (kap k i == 4) = false := beqF (by omega)
  obtain ⟨w, w1, w2⟩ := put_room hu hn (ch c i)
  have e1 : decide (((r1.n : Nat) : Int) < 16) = true := decide_eq_true (by omega)
  have e2 : Nat.ble ((r1.n + 1) * 2) 68719476736 = true := ble_iff.2 (by omega)
  have e3 : ((putU u (ch c i)).rx.n != (((r1.n + 1) : Nat) : Int)) = false := bneF (by rw [w.rx, hrx]; omega)
  have e4 : ((putU u (ch c i)).tx.n != 0) = false := bneF (by rw [w.tx, htx]; rfl)
  have hleaf : (q (OS.mk L cp (mkg k c) (putU u (ch c i)) (some (Row.mk (r1.n + 1) (fun j => (cond (Nat.blt (0 + j) r1.n) (r1.f (0 + j)) (ch c i))))) none u.ov (IntKind.wrap .i64 (i + 1)))) = true := by
    rw [g6]
    refine hq _ ⟨w.ok, w.lat.trans hl, ?_, ?_, ?_, ?_, w.ov⟩ rfl rfl rfl rfl
    · show (putU u (ch c i)).rx.n = _; rw [w.rx, hrx]; simp [rl]
    · show (putU u (ch c i)).tx.n = _; rw [w.tx, htx]; simp [rl]
    · intro j hj; show (putU u (ch c i)).rx.b j = _
      simp only [rl] at hj
      rw [w2]
      simp only [rf, Bool.cond_eq_ite, blt_iff, Nat.zero_add]
      by_cases z : j < r1.n
      · rw [if_neg (by omega), if_pos z]; exact hrb j z
      · rw [if_pos (by omega), if_neg z]
    · intro j hj; show (putU u (ch c i)).tx.b j = _; rw [w1]; simp [rl] at hj
  unfold roundSN
  refine condT g1 ?_
  refine condT g2 ?_
  refine condT g3 ?_
  refine condT g4 ?_
  refine condT k0 ?_
  refine condT k0 ?_
  refine condT g3 ?_
  refine condT g4 ?_
  refine condT e1 ?_
  refine condT g3 ?_
  refine condT g4 ?_
  refine condT (andT (bleS _) (andT (bqM _) e2)) ?_
  refine condT w.ok ?_
  refine condF e3 ?_
  refine condF e4 ?_
  refine condF (notF (beqB w.ov)) ?_
  refine condT (andT (bqS _) (andT (bleZ _) rfl)) ?_
  exact hleaf

set_option maxRecDepth 100000 in
set_option maxHeartbeats 2000000 in
theorem roundSN_full0 {L cp : Nat} {k c : Nat → Int} {u : Us} {r1 r2 : Row} {i : Int} {q : OS → Bool} {kk : K} (hu : okU u = true) (hl : latch u = false) (hrx : u.rx.n = (rl (some r1) : Int)) (htx : u.tx.n = (rl none : Int)) (hrb : ∀ j, j < rl (some r1) → u.rx.b j = rf (some r1) j) (htb : ∀ j, j < rl none → u.tx.b j = rf none j) (h0 : 0 ≤ i) (hL : i < (L : Int)) (h2 : i < 200)
    (hq : ∀ o, InvO o → o.i = i + 1 → o.len = L → o.cap = cp → o.g = mkg k c → q o = true) (hk : kap k i = 0) (hn : u.rx.n = 16) : roundSN L cp k c u r1 r2 u.ov i q kk = true := by
  simp only [rl] at hrx htx hrb htb
  have m1 := okU_may hu
  obtain ⟨a1, a2, _⟩ := mayB_iff.1 m1.1
  obtain ⟨b1, b2, _⟩ := mayB_iff.1 m1.2
  have g1 := decide_eq_true hL
  have g2 := decide_eq_true h2
  have g3 : inB i L = true := by simp [inB, h0, hL]
  have g4 : Nat.blt i.toNat L = true := blt_iff.2 (by omega)
  have g5 : ((okU u) && (!(latch u))) = true := by rw [hu, hl]; rfl
  have g6 := wrap_next h0 h2
  have k0 : (kap k i == 0) = true := beqT hk
  have k1 : (kap k i == 1) = false := beqF (by omega)
  have k2 : (kap k i == 2) = false := beqF (by omega)
  have k3 : (kap k i == 3) = false := beqF (by omega)
  have k4 : (kap k i == 4) = false := beqF (by omega)
  obtain ⟨w, w1, w2⟩ := put_full hu hn (ch c i)
  have e1 : decide (((r1.n : Nat) : Int) < 16) = false := decide_eq_false (by omega)
  have e3 : ((putU u (ch c i)).rx.n != ((r1.n : Nat) : Int)) = false := bneF (by rw [w.rx, hrx])
  have e4 : ((putU u (ch c i)).tx.n != 0) = false := bneF (by rw [w.tx, htx]; rfl)
  have hleaf : (q (OS.mk L cp (mkg k c) (putU u (ch c i)) (some (Row.mk r1.n (fun j => (r1.f (0 + j))))) none true (IntKind.wrap .i64 (i + 1)))) = true := by
    rw [g6]
    refine hq _ ⟨w.ok, w.lat.trans hl, ?_, ?_, ?_, ?_, w.ov⟩ rfl rfl rfl rfl
    · show (putU u (ch c i)).rx.n = _; rw [w.rx, hrx]; simp [rl]
    · show (putU u (ch c i)).tx.n = _; rw [w.tx, htx]; simp [rl]
    · intro j hj; show (putU u (ch c i)).rx.b j = _; rw [w2]; simpa [rf] using hrb j (by simpa [rl] using hj)
    · intro j hj; show (putU u (ch c i)).tx.b j = _; rw [w1]; simp [rl] at hj
  unfold roundSN
  refine condT g1 ?_
  refine condT g2 ?_
  refine condT g3 ?_
  refine condT g4 ?_
  refine condT k0 ?_
  refine condT k0 ?_
  refine condT g3 ?_
  refine condT g4 ?_
  refine condF e1 ?_
  refine condT w.ok ?_
  refine condF e3 ?_
  refine condF e4 ?_
  refine condF (notF (beqB w.ov)) ?_
  refine condT (andT (bqS _) (andT (bleZ _) rfl)) ?_
  exact hleaf

set_option maxRecDepth 100000 in
set_option maxHeartbeats 2000000 in
theorem roundSN_put1 {L cp : Nat} {k c : Nat → Int} {u : Us} {r1 r2 : Row} {i : Int} {q : OS → Bool} {kk : K} (hu : okU u = true) (hl : latch u = false) (hrx : u.rx.n = (rl (some r1) : Int)) (htx : u.tx.n = (rl none : Int)) (hrb : ∀ j, j < rl (some r1) → u.rx.b j = rf (some r1) j) (htb : ∀ j, j < rl none → u.tx.b j = rf none j) (h0 : 0 ≤ i) (hL : i < (L : Int)) (h2 : i < 200)
    (hq : ∀ o, InvO o → o.i = i + 1 → o.len = L → o.cap = cp → o.g = mkg k c → q o = true) (hk : kap k i = 1) (hn : u.rx.n < 16) : roundSN L cp k c u r1 r2 u.ov i q kk = true := by
  simp only [rl] at hrx htx hrb htb
  have m1 := okU_may hu
  obtain ⟨a1, a2, _⟩ := mayB_iff.1 m1.1
  obtain ⟨b1, b2, _⟩ := mayB_iff.1 m1.2
  have g1 := decide_eq_true hL
  have g2 := decide_eq_true h2
  have g3 : inB i L = true := by simp [inB, h0, hL]
  have g4 : Nat.blt i.toNat L = true := blt_iff.2 (by omega)
  have g5 : ((okU u) && (!(latch u))) = true := by rw [hu, hl]; rfl
  have g6 := wrap_next h0 h2
  have k0 : (kap k i == 0) = false := beqF (by omega)
  have k1 : (kap k i == 1) = true := beqT hk
  have k2 : (kap k i == 2) = false := beqF (by omega)
  have k3 : (kap k i == 3) = false := beqF (by omega)
  have k4 : (kap k i == 4) = false := beqF (by omega)
  obtain ⟨w, w1, w2⟩ := put_room hu hn (ch c i)
  have e1 : decide (((r1.n : Nat) : Int) < 16) = true := decide_eq_true (by omega)
  have e2 : Nat.ble ((r1.n + 1) * 2) 68719476736 = true := ble_iff.2 (by omega)
  have e3 : ((putU u (ch c i)).rx.n != (((r1.n + 1) : Nat) : Int)) = false := bneF (by rw [w.rx, hrx]; omega)
  have e4 : ((putU u (ch c i)).tx.n != 0) = false := bneF (by rw [w.tx, htx]; rfl)
  have hleaf : (q (OS.mk L cp (mkg k c) (putU u (ch c i)) (some (Row.mk (r1.n + 1) (fun j => (cond (Nat.blt (0 + j) r1.n) (r1.f (0 + j)) (ch c i))))) none u.ov (IntKind.wrap .i64 (i + 1)))) = true := by
    rw [g6]
    refine hq _ ⟨w.ok, w.lat.trans hl, ?_, ?_, ?_, ?_, w.ov⟩ rfl rfl rfl rfl
    · show (putU u (ch c i)).rx.n = _; rw [w.rx, hrx]; simp [rl]
    · show (putU u (ch c i)).tx.n = _; rw [w.tx, htx]; simp [rl]
    · intro j hj; show (putU u (ch c i)).rx.b j = _
      simp only [rl] at hj
      rw [w2]
      simp only [rf, Bool.cond_eq_ite, blt_iff, Nat.zero_add]
      by_cases z : j < r1.n
      · rw [if_neg (by omega), if_pos z]; exact hrb j z
      · rw [if_pos (by omega), if_neg z]
    · intro j hj; show (putU u (ch c i)).tx.b j = _; rw [w1]; simp [rl] at hj
  unfold roundSN
  refine condT g1 ?_
  refine condT g2 ?_
  refine condT g3 ?_
  refine condT g4 ?_
  refine condF k0 ?_
  refine condT k1 ?_
  refine condT g3 ?_
  refine condT g4 ?_
  refine condT e1 ?_
  refine condT g3 ?_
  refine condT g4 ?_
  refine condT (andT (bleS _) (andT (bqM _) e2)) ?_
  refine condT w.ok ?_
  refine condF e3 ?_
  refine condF e4 ?_
  refine condF (notF (beqB w.ov)) ?_
  refine condT (andT (bqS _) (andT (bleZ _) rfl)) ?_
  exact hleaf

set_option maxRecDepth 100000 in
set_option maxHeartbeats 2000000 in
theorem roundSN_full1 {L cp : Nat} {k c : Nat → Int} {u : Us} {r1 r2 : Row} {i : Int} {q : OS → Bool} {kk : K} (hu : okU u = true) (hl : latch u = false) (hrx : u.rx.n = (rl (some r1) : Int)) (htx : u.tx.n = (rl none : Int)) (hrb : ∀ j, j < rl (some r1) → u.rx.b j = rf (some r1) j) (htb : ∀ j, j < rl none → u.tx.b j = rf none j) (h0 : 0 ≤ i) (hL : i < (L : Int)) (h2 : i < 200)
    (hq : ∀ o, InvO o → o.i = i + 1 → o.len = L → o.cap = cp → o.g = mkg k c → q o = true) (hk : kap k i = 1) (hn : u.rx.n = 16) : roundSN L cp k c u r1 r2 u.ov i q kk = true := by
  simp only [rl] at hrx htx hrb htb
  have m1 := okU_may hu
  obtain ⟨a1, a2, _⟩ := mayB_iff.1 m1.1
  obtain ⟨b1, b2, _⟩ := mayB_iff.1 m1.2
  have g1 := decide_eq_true hL
  have g2 := decide_eq_true h2
  have g3 : inB i L = true := by simp [inB, h0, hL]
  have g4 : Nat.blt i.toNat L = true := blt_iff.2 (by omega)
  have g5 : ((okU u) && (!(latch u))) = true := by rw [hu, hl]; rfl
  have g6 := wrap_next h0 h2
  have k0 : (kap k i == 0) = false := beqF (by omega)
  have k1 : (kap k i == 1) = true := beqT hk
  have k2 : (kap k i == 2) = false := beqF (by omega)
  have k3 : (kap k i == 3) = false := beqF (by omega)
  have k4 : (kap k i == 4) = false := beqF (by omega)
  obtain ⟨w, w1, w2⟩ := put_full hu hn (ch c i)
  have e1 : decide (((r1.n : Nat) : Int) < 16) = false := decide_eq_false (by omega)
  have e3 : ((putU u (ch c i)).rx.n != ((r1.n : Nat) : Int)) = false := bneF (by rw [w.rx, hrx])
  have e4 : ((putU u (ch c i)).tx.n != 0) = false := bneF (by rw [w.tx, htx]; rfl)
  have hleaf : (q (OS.mk L cp (mkg k c) (putU u (ch c i)) (some (Row.mk r1.n (fun j => (r1.f (0 + j))))) none true (IntKind.wrap .i64 (i + 1)))) = true := by
    rw [g6]
    refine hq _ ⟨w.ok, w.lat.trans hl, ?_, ?_, ?_, ?_, w.ov⟩ rfl rfl rfl rfl
    · show (putU u (ch c i)).rx.n = _; rw [w.rx, hrx]; simp [rl]
    · show (putU u (ch c i)).tx.n = _; rw [w.tx, htx]; simp [rl]
    · intro j hj; show (putU u (ch c i)).rx.b j = _; rw [w2]; simpa [rf] using hrb j (by simpa [rl] using hj)
    · intro j hj; show (putU u (ch c i)).tx.b j = _; rw [w1]; simp [rl] at hj
  unfold roundSN
  refine condT g1 ?_
  refine condT g2 ?_
  refine condT g3 ?_
  refine condT g4 ?_
  refine condF k0 ?_
  refine condT k1 ?_
  refine condT g3 ?_
  refine condT g4 ?_
  refine condF e1 ?_
  refine condT w.ok ?_
  refine condF e3 ?_
  refine condF e4 ?_
  refine condF (notF (beqB w.ov)) ?_
  refine condT (andT (bqS _) (andT (bleZ _) rfl)) ?_
  exact hleaf

set_option maxRecDepth 100000 in
set_option maxHeartbeats 2000000 in
theorem roundSN_write2 {L cp : Nat} {k c : Nat → Int} {u : Us} {r1 r2 : Row} {i : Int} {q : OS → Bool} {kk : K} (hu : okU u = true) (hl : latch u = false) (hrx : u.rx.n = (rl (some r1) : Int)) (htx : u.tx.n = (rl none : Int)) (hrb : ∀ j, j < rl (some r1) → u.rx.b j = rf (some r1) j) (htb : ∀ j, j < rl none → u.tx.b j = rf none j) (h0 : 0 ≤ i) (hL : i < (L : Int)) (h2 : i < 200)
    (hq : ∀ o, InvO o → o.i = i + 1 → o.len = L → o.cap = cp → o.g = mkg k c → q o = true) (hk : kap k i = 2) (hn : u.tx.n < 16) : roundSN L cp k c u r1 r2 u.ov i q kk = true := by
  simp only [rl] at hrx htx hrb htb
  have m1 := okU_may hu
  obtain ⟨a1, a2, _⟩ := mayB_iff.1 m1.1
  obtain ⟨b1, b2, _⟩ := mayB_iff.1 m1.2
  have g1 := decide_eq_true hL
  have g2 := decide_eq_true h2
  have g3 : inB i L = true := by simp [inB, h0, hL]
  have g4 : Nat.blt i.toNat L = true := blt_iff.2 (by omega)
  have g5 : ((okU u) && (!(latch u))) = true := by rw [hu, hl]; rfl
  have g6 := wrap_next h0 h2
  have k0 : (kap k i == 0) = false := beqF (by omega)
  have k1 : (kap k i == 1) = false := beqF (by omega)
  have k2 : (kap k i == 2) = true := beqT hk
  have k3 : (kap k i == 3) = false := beqF (by omega)
  have k4 : (kap k i == 4) = false := beqF (by omega)
  obtain ⟨w, w1, w2⟩ := write_room hu hn (ch c i)
  have e1 := w.ok
  have e2 := w.ok
  have e3 : ((write0U u (ch c i)).tx.n != 1) = false := bneF (by rw [w.tx, htx]; rfl)
  have e4 : ((write0U u (ch c i)).rx.n != ((r1.n : Nat) : Int)) = false := bneF (by rw [w.rx, hrx])
  have hleaf : (q (OS.mk L cp (mkg k c) (write0U u (ch c i)) (some (Row.mk r1.n (fun j => (r1.f (0 + j))))) (some (Row.mk 1 (fun j => (ch c i)))) u.ov (IntKind.wrap .i64 (i + 1)))) = true := by
    rw [g6]
    refine hq _ ⟨w.ok, w.lat.trans hl, ?_, ?_, ?_, ?_, w.ov⟩ rfl rfl rfl rfl
    · show (write0U u (ch c i)).rx.n = _; rw [w.rx, hrx]; simp [rl]
    · show (write0U u (ch c i)).tx.n = _; rw [w.tx, htx]; simp [rl]
    · intro j hj; show (write0U u (ch c i)).rx.b j = _; rw [w1]; simpa [rf] using hrb j (by simpa [rl] using hj)
    · intro j hj; show (write0U u (ch c i)).tx.b j = _
      simp only [rl] at hj
      rw [w2]
      rw [if_pos (by omega)]; rfl
  unfold roundSN
  refine condT g1 ?_
  refine condT g2 ?_
  refine condT g3 ?_
  refine condT g4 ?_
  refine condF k0 ?_
  refine condF k1 ?_
  refine condT k2 ?_
  refine condT k2 ?_
  refine condT g3 ?_
  refine condT g4 ?_
  refine condT (condTT (andT hu (notT hl)) (condTT g3 (condTT g4 (condTT w.ok (condFT e4 (condFT e3 (condFT (notF (beqB w.ov)) (condTT (andT (bqS _) (andT (bleZ _) rfl)) hleaf)))))))) ?_
  refine condT (andT hu (notT hl)) ?_
  refine condT g3 ?_
  refine condT g4 ?_
  refine condT w.ok ?_
  refine condF e4 ?_
  refine condF e3 ?_
  refine condF (notF (beqB w.ov)) ?_
  refine condT (andT (bqS _) (andT (bleZ _) rfl)) ?_
  exact hleaf

set_option maxRecDepth 100000 in
set_option maxHeartbeats 2000000 in
theorem roundSN_write3 {L cp : Nat} {k c : Nat → Int} {u : Us} {r1 r2 : Row} {i : Int} {q : OS → Bool} {kk : K} (hu : okU u = true) (hl : latch u = false) (hrx : u.rx.n = (rl (some r1) : Int)) (htx : u.tx.n = (rl none : Int)) (hrb : ∀ j, j < rl (some r1) → u.rx.b j = rf (some r1) j) (htb : ∀ j, j < rl none → u.tx.b j = rf none j) (h0 : 0 ≤ i) (hL : i < (L : Int)) (h2 : i < 200)
    (hq : ∀ o, InvO o → o.i = i + 1 → o.len = L → o.cap = cp → o.g = mkg k c → q o = true) (hk : kap k i = 3) (hn : u.tx.n < 16) : roundSN L cp k c u r1 r2 u.ov i q kk = true := by
  simp only [rl] at hrx htx hrb htb
  have m1 := okU_may hu
  obtain ⟨a1, a2, _⟩ := mayB_iff.1 m1.1
  obtain ⟨b1, b2, _⟩ := mayB_iff.1 m1.2
  have g1 := decide_eq_true hL
  have g2 := decide_eq_true h2
  have g3 : inB i L = true := by simp [inB, h0, hL]
  have g4 : Nat.blt i.toNat L = true := blt_iff.2 (by omega)
  have g5 : ((okU u) && (!(latch u))) = true := by rw [hu, hl]; rfl
  have g6 := wrap_next h0 h2
  have k0 : (kap k i == 0) = false := beqF (by omega)
  have k1 : (kap k i == 1) = false := beqF (by omega)
  have k2 : (kap k i == 2) = false := beqF (by omega)
  have k3 : (kap k i == 3) = true := beqT hk
  have k4 : (kap k i == 4) = false := beqF (by omega)
  obtain ⟨w, w1, w2⟩ := write_room hu hn (ch c i)
  have e1 := w.ok
  have e2 := w.ok
  have e3 : ((write0U u (ch c i)).tx.n != 1) = false := bneF (by rw [w.tx, htx]; rfl)
  have e4 : ((write0U u (ch c i)).rx.n != ((r1.n : Nat) : Int)) = false := bneF (by rw [w.rx, hrx])
  have hleaf : (q (OS.mk L cp (mkg k c) (write0U u (ch c i)) (some (Row.mk r1.n (fun j => (r1.f (0 + j))))) (some (Row.mk 1 (fun j => (ch c i)))) u.ov (IntKind.wrap .i64 (i + 1)))) = true := by
    rw [g6]
    refine hq _ ⟨w.ok, w.lat.trans hl, ?_, ?_, ?_, ?_, w.ov⟩ rfl rfl rfl rfl
    · show (write0U u (ch c i)).rx.n = _; rw [w.rx, hrx]; simp [rl]
    · show (write0U u (ch c i)).tx.n = _; rw [w.tx, htx]; simp [rl]
    · intro j hj; show (write0U u (ch c i)).rx.b j = _; rw [w1]; simpa [rf] using hrb j (by simpa [rl] using hj)
    · intro j hj; show (write0U u (ch c i)).tx.b j = _
      simp only [rl] at hj
      rw [w2]
      rw [if_pos (by omega)]; rfl
  unfold roundSN
  refine condT g1 ?_
  refine condT g2 ?_
  refine condT g3 ?_
  refine condT g4 ?_
  refine condF k0 ?_
  refine condF k1 ?_
  refine condF k2 ?_
  refine condT k3 ?_
  refine condT g3 ?_
  refine condT g4 ?_
  refine condT (condTT (andT hu (notT hl)) (condTT g3 (condTT g4 (condTT w.ok (condFT e4 (condFT e3 (condFT (notF (beqB w.ov)) (condTT (andT (bqS _) (andT (bleZ _) rfl)) hleaf)))))))) ?_
  refine condT (andT hu (notT hl)) ?_
  refine condT g3 ?_
  refine condT g4 ?_
  refine condT w.ok ?_
  refine condF e4 ?_
  refine condF e3 ?_
  refine condF (notF (beqB w.ov)) ?_
  refine condT (andT (bqS _) (andT (bleZ _) rfl)) ?_
  exact hleaf

set_option maxRecDepth 100000 in
set_option maxHeartbeats 2000000 in
theorem roundSN_read {L cp : Nat} {k c : Nat → Int} {u : Us} {r1 r2 : Row} {i : Int} {q : OS → Bool} {kk : K} (hu : okU u = true) (hl : latch u = false) (hrx : u.rx.n = (rl (some r1) : Int)) (htx : u.tx.n = (rl none : Int)) (hrb : ∀ j, j < rl (some r1) → u.rx.b j = rf (some r1) j) (htb : ∀ j, j < rl none → u.tx.b j = rf none j) (h0 : 0 ≤ i) (hL : i < (L : Int)) (h2 : i < 200)
    (hq : ∀ o, InvO o → o.i = i + 1 → o.len = L → o.cap = cp → o.g = mkg k c → q o = true) (hk : kap k i = 4) (hn : 0 < u.rx.n) : roundSN L cp k c u r1 r2 u.ov i q kk = true := by
  simp only [rl] at hrx htx hrb htb
  have m1 := okU_may hu
  obtain ⟨a1, a2, _⟩ := mayB_iff.1 m1.1
  obtain ⟨b1, b2, _⟩ := mayB_iff.1 m1.2
  have g1 := decide_eq_true hL
  have g2 := decide_eq_true h2
  have g3 : inB i L = true := by simp [inB, h0, hL]
  have g4 : Nat.blt i.toNat L = true := blt_iff.2 (by omega)
  have g5 : ((okU u) && (!(latch u))) = true := by rw [hu, hl]; rfl
  have g6 := wrap_next h0 h2
  have k0 : (kap k i == 0) = false := beqF (by omega)
  have k1 : (kap k i == 1) = false := beqF (by omega)
  have k2 : (kap k i == 2) = false := beqF (by omega)
  have k3 : (kap k i == 3) = false := beqF (by omega)
  have k4 : (kap k i == 4) = true := beqT hk
  obtain ⟨w, w1, w3, w2⟩ := read_some hu hn
  have e1 : decide (((r1.n : Nat) : Int) > 0) = true := decide_eq_true (by omega)
  have e1b : decide (0 < ((r1.n : Nat) : Int)) = true := decide_eq_true (by omega)
  have e2 : decide (1 ≤ ((r1.n : Nat) : Int)) = true := decide_eq_true (by omega)
  have e3 : ((read0U u).rx.n != (((r1.n - 1) : Nat) : Int)) = false := bneF (by rw [w.rx, hrx]; omega)
  have e4 : ((read0U u).tx.n != 0) = false := bneF (by rw [w.tx, htx]; rfl)
  have e5 : ((read0C u) != (r1.f 0)) = false := bneF (by rw [w3, hrb 0 (by omega)]; rfl)
  have e6 : (((r1.n : Nat) : Int) == 0) = false := beqF (by omega)
  have e7 : Nat.blt 0 r1.n = true := blt_iff.2 (by omega)
  have e8 : inB 0 r1.n = true := by simp [inB]; omega
  have e9 : Nat.ble (1 + (r1.n - 1)) r1.n = true := ble_iff.2 (by omega)
  have hleaf : (q (OS.mk L cp (mkg k c) (read0U u) (some (Row.mk (r1.n - 1) (fun j => (r1.f (1 + j))))) none u.ov (IntKind.wrap .i64 (i + 1)))) = true := by
    rw [g6]
    refine hq _ ⟨w.ok, w.lat.trans hl, ?_, ?_, ?_, ?_, w.ov⟩ rfl rfl rfl rfl
    · show (read0U u).rx.n = _; rw [w.rx, hrx]; simp [rl]; omega
    · show (read0U u).tx.n = _; rw [w.tx, htx]; simp [rl]
    · intro j hj; show (read0U u).rx.b j = _
      simp only [rl] at hj
      rw [w2 j (by omega)]; exact hrb (1 + j) (by omega)
    · intro j hj; show (read0U u).tx.b j = _; rw [w1]; simp [rl] at hj
  unfold roundSN
  refine condT g1 ?_
  refine condT g2 ?_
  refine condT g3 ?_
  refine condT g4 ?_
  refine condF k0 ?_
  refine condF k1 ?_
  refine condF k2 ?_
  refine condF k3 ?_
  refine condT k4 ?_
  refine condT (andT hu (notT hl)) ?_
  refine condT e1 ?_
  refine condT e8 ?_
  refine condT e7 ?_
  refine condF e5 ?_
  refine condF e6 ?_
  refine condT e1 ?_
  refine condT e2 ?_
  refine condT w.ok ?_
  refine condF e3 ?_
  refine condF e4 ?_
  refine condF (notF (beqB w.ov)) ?_
  refine condT (andT (bqS _) (andT e9 rfl)) ?_
  exact hleaf

set_option maxRecDepth 100000 in
set_option maxHeartbeats 2000000 in
theorem roundSN_none {L cp : Nat} {k c : Nat → Int} {u : Us} {r1 r2 : Row} {i : Int} {q : OS → Bool} {kk : K} (hu : okU u = true) (hl : latch u = false) (hrx : u.rx.n = (rl (some r1) : Int)) (htx : u.tx.n = (rl none : Int)) (hrb : ∀ j, j < rl (some r1) → u.rx.b j = rf (some r1) j) (htb : ∀ j, j < rl none → u.tx.b j = rf none j) (h0 : 0 ≤ i) (hL : i < (L : Int)) (h2 : i < 200)
    (hq : ∀ o, InvO o → o.i = i + 1 → o.len = L → o.cap = cp → o.g = mkg k c → q o = true) (hk : kap k i = 4) (hn : u.rx.n = 0) : roundSN L cp k c u r1 r2 u.ov i q kk = true := by
  simp only [rl] at hrx htx hrb htb
  have m1 := okU_may hu
  obtain ⟨a1, a2, _⟩ := mayB_iff.1 m1.1
  obtain ⟨b1, b2, _⟩ := mayB_iff.1 m1.2
  have g1 := decide_eq_true hL
  have g2 := decide_eq_true h2
  have g3 : inB i L = true := by simp [inB, h0, hL]
  have g4 : Nat.blt i.toNat L = true := blt_iff.2 (by omega)
  have g5 : ((okU u) && (!(latch u))) = true := by rw [hu, hl]; rfl
  have g6 := wrap_next h0 h2
  have k0 : (kap k i == 0) = false := beqF (by omega)
  have k1 : (kap k i == 1) = false := beqF (by omega)
  have k2 : (kap k i == 2) = false := beqF (by omega)
  have k3 : (kap k i == 3) = false := beqF (by omega)
  have k4 : (kap k i == 4) = true := beqT hk
  obtain ⟨w, w1⟩ := read_none hn
  have e1 : decide (((r1.n : Nat) : Int) > 0) = false := decide_eq_false (by omega)
  have e6 : (((r1.n : Nat) : Int) == 0) = true := beqT (by omega)
  have e3 : (u.rx.n != ((r1.n : Nat) : Int)) = false := bneF (by rw [hrx])
  have e4 : (u.tx.n != 0) = false := bneF (by rw [htx]; rfl)
  have hleaf : (q (OS.mk L cp (mkg k c) (read0U u) (some (Row.mk r1.n (fun j => (r1.f (0 + j))))) none u.ov (IntKind.wrap .i64 (i + 1)))) = true := by
    rw [g6]
    rw [w]
    refine hq _ ⟨hu, hl, ?_, ?_, ?_, ?_, rfl⟩ rfl rfl rfl rfl
    · simpa [rl] using hrx
    · simpa [rl] using htx
    · intro j hj; simpa [rf] using hrb j (by simpa [rl] using hj)
    · intro j hj; simp [rl] at hj
  unfold roundSN
  refine condT g1 ?_
  refine condT g2 ?_
  refine condT g3 ?_
  refine condT g4 ?_
  refine condF k0 ?_
  refine condF k1 ?_
  refine condF k2 ?_
  refine condF k3 ?_
  refine condT k4 ?_
  refine condT (andT hu (notT hl)) ?_
  refine condF e1 ?_
  refine condT e6 ?_
  refine condF (bneF w1) ?_
  refine condF e1 ?_
  refine condT (by rw [w]; exact hu) ?_
  refine condF (by rw [w]; exact e3) ?_
  refine condF (by rw [w]; exact e4) ?_
  refine condF (notF (beqB (by rw [w]))) ?_
  refine condT (andT (bqS _) (andT (bleZ _) rfl)) ?_
  exact hleaf

set_option maxRecDepth 100000 in
set_option maxHeartbeats 2000000 in
theorem roundSN_rest {L cp : Nat} {k c : Nat → Int} {u : Us} {r1 r2 : Row} {i : Int} {q : OS → Bool} {kk : K} (hu : okU u = true) (hl : latch u = false) (hrx : u.rx.n = (rl (some r1) : Int)) (htx : u.tx.n = (rl none : Int)) (hrb : ∀ j, j < rl (some r1) → u.rx.b j = rf (some r1) j) (htb : ∀ j, j < rl none → u.tx.b j = rf none j) (h0 : 0 ≤ i) (hL : i < (L : Int)) (h2 : i < 200)
    (hq : ∀ o, InvO o → o.i = i + 1 → o.len = L → o.cap = cp → o.g = mkg k c → q o = true) (hk : kap k i ≠ 0 ∧ kap k i ≠ 1 ∧ kap k i ≠ 2 ∧ kap k i ≠ 3 ∧ kap k i ≠ 4) (hn : u.tx.n = 0) : roundSN L cp k c u r1 r2 u.ov i q kk = true := by
  simp only [rl] at hrx htx hrb htb
  have m1 := okU_may hu
  obtain ⟨a1, a2, _⟩ := mayB_iff.1 m1.1
  obtain ⟨b1, b2, _⟩ := mayB_iff.1 m1.2
  have g1 := decide_eq_true hL
  have g2 := decide_eq_true h2
  have g3 : inB i L = true := by simp [inB, h0, hL]
  have g4 : Nat.blt i.toNat L = true := blt_iff.2 (by omega)
  have g5 : ((okU u) && (!(latch u))) = true := by rw [hu, hl]; rfl
  have g6 := wrap_next h0 h2
  have k0 : (kap k i == 0) = false := beqF (by omega)
  have k1 : (kap k i == 1) = false := beqF (by omega)
  have k2 : (kap k i == 2) = false := beqF (by omega)
  have k3 : (kap k i == 3) = false := beqF (by omega)
  have k4 : (kap k i == 4) = false := beqF (by omega)
  obtain ⟨w, w4⟩ := tick_none hu hn
  have e3 : (u.rx.n != ((r1.n : Nat) : Int)) = false := bneF (by rw [hrx])
  have e4 : (u.tx.n != 0) = false := bneF (by rw [htx]; rfl)
  have hleaf : (q (OS.mk L cp (mkg k c) (tickU u) (some (Row.mk r1.n (fun j => (r1.f (0 + j))))) none u.ov (IntKind.wrap .i64 (i + 1)))) = true := by
    rw [g6]
    rw [w]
    refine hq _ ⟨hu, hl, ?_, ?_, ?_, ?_, rfl⟩ rfl rfl rfl rfl
    · simpa [rl] using hrx
    · simpa [rl] using htx
    · intro j hj; simpa [rf] using hrb j (by simpa [rl] using hj)
    · intro j hj; simp [rl] at hj
  unfold roundSN
  refine condT g1 ?_
  refine condT g2 ?_
  refine condT g3 ?_
  refine condT g4 ?_
  refine condF k0 ?_
  refine condF k1 ?_
  refine condF k2 ?_
  refine condF k3 ?_
  refine condF k4 ?_
  refine condF w4 ?_
  refine condT (by rw [w]; exact hu) ?_
  refine condF (by rw [w]; exact e3) ?_
  refine condF (by rw [w]; exact e4) ?_
  refine condF (notF (beqB (by rw [w]))) ?_
  refine condT (andT (bqS _) (andT (bleZ _) rfl)) ?_
  exact hleaf

theorem roundSN_true {L cp : Nat} {k c : Nat → Int} {u : Us} {r1 r2 : Row} {ov : Bool} {i : Int} {q : OS → Bool} {kk : K} (hI : InvO ⟨L, cp, mkg k c, u, (some r1), none, ov, i⟩) (h0 : 0 ≤ i)
    (hk : kk (.exit 0) nilS = true) (hq : i < (L : Int) → i < 200 → ∀ o, InvO o → o.i = i + 1 → o.len = L → o.cap = cp → o.g = mkg k c → q o = true) : roundSN L cp k c u r1 r2 ov i q kk = true := by
  by_cases hL : i < (L : Int)
  rotate_left
  · unfold roundSN
    rw [decide_eq_false hL]
    exact hk
  by_cases h2 : i < 200
  rotate_left
  · unfold roundSN
    rw [decide_eq_true hL, decide_eq_false h2]
    exact hk
  obtain ⟨hu, hl, hrx, htx, hrb, htb, hov⟩ := hI
  replace hov : u.ov = ov := hov
  subst hov
  have m1 := okU_may hu
  obtain ⟨a1, a2, _⟩ := mayB_iff.1 m1.1
  obtain ⟨b1, b2, _⟩ := mayB_iff.1 m1.2
  have hw := (okU_iff.1 hu).2.2.2.2.2.1
  simp only at a1 a2 b1 b2 hw
  clear hk
  rcases kap_cases k i with hk | hk | hk | hk | hk | hk
  · rcases (show u.rx.n < 16 ∨ u.rx.n = 16 by omega) with hn | hn
    · exact roundSN_put0 hu hl hrx htx hrb htb h0 hL h2 (hq hL h2) hk hn
    · exact roundSN_full0 hu hl hrx htx hrb htb h0 hL h2 (hq hL h2) hk hn
  · rcases (show u.rx.n < 16 ∨ u.rx.n = 16 by omega) with hn | hn
    · exact roundSN_put1 hu hl hrx htx hrb htb h0 hL h2 (hq hL h2) hk hn
    · exact roundSN_full1 hu hl hrx htx hrb htb h0 hL h2 (hq hL h2) hk hn
  · exact roundSN_write2 hu hl hrx htx hrb htb h0 hL h2 (hq hL h2) hk (by rw [show u.tx.n = 0 from htx]; decide)
  · exact roundSN_write3 hu hl hrx htx hrb htb h0 hL h2 (hq hL h2) hk (by rw [show u.tx.n = 0 from htx]; decide)
  · rcases (show 0 < u.rx.n ∨ u.rx.n = 0 by omega) with hn | hn
    · exact roundSN_read hu hl hrx htx hrb htb h0 hL h2 (hq hL h2) hk hn
    · exact roundSN_none hu hl hrx htx hrb htb h0 hL h2 (hq hL h2) hk hn
  · exact roundSN_rest hu hl hrx htx hrb htb h0 hL h2 (hq hL h2) hk htx

end Go.Proofs.Yteionboacdkfjaa.X
