/-
  UART, part Q: each round of 'UartOrder' keeps what is told at the loop's head, or ends it.
-/
import Derived.Test.YteionboacdkfjaaUN
namespace Go.Proofs.Yteionboacdkfjaa.X

set_option maxRecDepth 100000 in
set_option maxHeartbeats 2000000 in
theorem roundNN_put0 {L cp : Nat} {k c : Nat → Int} {u : Us} {r1 r2 : Row} {i : Int} {q : OS → Bool} {kk : K} (hu : okU u = true) (hl : latch u = false) (hrx : u.rx.n = (rl none : Int)) (htx : u.tx.n = (rl none : Int)) (hrb : ∀ j, j < rl none → u.rx.b j = rf none j) (htb : ∀ j, j < rl none → u.tx.b j = rf none j) (h0 : 0 ≤ i) (hL : i < (L : Int)) (h2 : i < 200)
    (hq : ∀ o, InvO o → o.i = i + 1 → o.len = L → o.cap = cp → o.g = mkg k c → q o = true) (hk : kap k i = 0) (hn : u.rx.n < 16) : roundNN L cp k c u r1 r2 u.ov i q kk = true := by
  simp only [rl] at hrx htx hrb htb
  have m1 := okU_may hu
  obtain ⟨a1, a2, _⟩ := mayB_iff.1 m1.1
  obtain ⟨b1, b2, _⟩ := mayB_iff.1 m1.2
  have g1 := decide_eq_true hL
  have g2 := decide_eq_true h2
  have g3 : inB i L = true := by simp [inB, h0, hL]
  have g4 : Nat.blt i.toNat L = true := blt_iff.2 (by omega)
  have g5 : ((okU u) && (!(latch u))) = true := by rw [hu, hl]; rfl
  have g6 := wrap_next h0 h2
  have k0 : (kap k i == 0) = true := beqT hk
  have k1 : (kap k i == 1) = false := beqF (by omega)
  have k2 : (kap k i == 2) = false := beqF (by omega)
  have k3 : (kap k i == 3) = false := beqF (by omega)
  have k4 : (kap k i == 4) = false := beqF (by omega)
  obtain ⟨w, w1, w2⟩ := put_room hu hn (ch c i)
  have e1 := w.ok
  have e2 := w.ok
  have e3 : ((putU u (ch c i)).rx.n != 1) = false := bneF (by rw [w.rx, hrx]; rfl)
  have e4 : ((putU u (ch c i)).tx.n != 0) = false := bneF (by rw [w.tx, htx]; rfl)
  have hleaf : (q (OS.mk L cp (mkg k c) (putU u (ch c i)) (some (Row.mk 1 (fun j => (ch c i)))) none u.ov (IntKind.wrap .i64 (i + 1)))) = true := by
    rw [g6]
    refine hq _ ⟨w.ok, w.lat.trans hl, ?_, ?_, ?_, ?_, w.ov⟩ rfl rfl rfl rfl
    · show (putU u (ch c i)).rx.n = _; rw [w.rx, hrx]; simp [rl]
    · show (putU u (ch c i)).tx.n = _; rw [w.tx, htx]; simp [rl]
    · intro j hj; show (putU u (ch c i)).rx.b j = _
      simp only [rl] at hj
      rw [w2]
      rw [if_pos (by omega)]; rfl
    · intro j hj; show (putU u (ch c i)).tx.b j = _; rw [w1]; simp [rl] at hj
  unfold roundNN
  refine condT g1 ?_
  refine condT g2 ?_
  refine condT g3 ?_
  refine condT g4 ?_
  refine condT k0 ?_
  refine condT k0 ?_
  refine condT g3 ?_
  refine condT g4 ?_
  refine condT g3 ?_
  refine condT g4 ?_
  refine condT w.ok ?_
  refine condF e3 ?_
  refine condF e4 ?_
  refine condF (notF (beqB w.ov)) ?_
  refine condT (andT (bqS _) rfl) ?_
  exact hleaf

set_option maxRecDepth 100000 in
set_option maxHeartbeats 2000000 in
theorem roundNN_put1 {L cp : Nat} {k c : Nat → Int} {u : Us} {r1 r2 : Row} {i : Int} {q : OS → Bool} {kk : K} (hu : okU u = true) (hl : latch u = false) (hrx : u.rx.n = (rl none : Int)) (htx : u.tx.n = (rl none : Int)) (hrb : ∀ j, j < rl none → u.rx.b j = rf none j) (htb : ∀ j, j < rl none → u.tx.b j = rf none j) (h0 : 0 ≤ i) (hL : i < (L : Int)) (h2 : i < 200)
    (hq : ∀ o, InvO o → o.i = i + 1 → o.len = L → o.cap = cp → o.g = mkg k c → q o = true) (hk : kap k i = 1) (hn : u.rx.n < 16) : roundNN L cp k c u r1 r2 u.ov i q kk = true := by
  simp only [rl] at hrx htx hrb htb
  have m1 := okU_may hu
  obtain ⟨a1, a2, _⟩ := mayB_iff.1 m1.1
  obtain ⟨b1, b2, _⟩ := mayB_iff.1 m1.2
  have g1 := decide_eq_true hL
  have g2 := decide_eq_true h2
  have g3 : inB i L = true := by simp [inB, h0, hL]
  have g4 : Nat.blt i.toNat L = true := blt_iff.2 (by omega)
  have g5 : ((okU u) && (!(latch u))) = true := by rw [hu, hl]; rfl
  have g6 := wrap_next h0 h2
  have k0 : (kap k i == 0) = false := beqF (by omega)
  have k1 : (kap k i == 1) = true := beqT hk
  have k2 : (kap k i == 2) = false := beqF (by omega)
  have k3 : (kap k i == 3) = false := beqF (by omega)
  have k4 : (kap k i == 4) = false := beqF (by omega)
  obtain ⟨w, w1, w2⟩ := put_room hu hn (ch c i)
  have e1 := w.ok
  have e2 := w.ok
  have e3 : ((putU u (ch c i)).rx.n != 1) = false := bneF (by rw [w.rx, hrx]; rfl)
  have e4 : ((putU u (ch c i)).tx.n != 0) = false := bneF (by rw [w.tx, htx]; rfl)
  have hleaf : (q (OS.mk L cp (mkg k c) (putU u (ch c i)) (some (Row.mk 1 (fun j => (ch c i)))) none u.ov (IntKind.wrap .i64 (i + 1)))) = true := by
    rw [g6]
    refine hq _ ⟨w.ok, w.lat.trans hl, ?_, ?_, ?_, ?_, w.ov⟩ rfl rfl rfl rfl
    · show (putU u (ch c i)).rx.n = _; rw [w.rx, hrx]; simp [rl]
    · show (putU u (ch c i)).tx.n = _; rw [w.tx, htx]; simp [rl]
    · intro j hj; show (putU u (ch c i)).rx.b j = _
      simp only [rl] at hj
      rw [w2]
      rw [if_pos (by omega)]; rfl
    · intro j hj; show (putU u (ch c i)).tx.b j = _; rw [w1]; simp [rl] at hj
  unfold roundNN
  refine condT g1 ?_
  refine condT g2 ?_
  refine condT g3 ?_
  refine condT g4 ?_
  refine condF k0 ?_
  refine condT k1 ?_
  refine condT g3 ?_
  refine condT g4 ?_
  refine condT g3 ?_
  refine condT g4 ?_
  refine condT w.ok ?_
  refine condF e3 ?_
  refine condF e4 ?_
  refine condF (notF (beqB w.ov)) ?_
  refine condT (andT (bqS _) rfl) ?_
  exact hleaf

set_option maxRecDepth 100000 in
set_option maxHeartbeats 2000000 in
theorem roundNN_write2 {L cp : Nat} {k c : Nat → Int} {u : Us} {r1 r2 : Row} {i : Int} {q : OS → Bool} {kk : K} (hu : okU u = true) (hl : latch u = false) (hrx : u.rx.n = (rl none : Int)) (htx : u.tx.n = (rl none : Int)) (hrb : ∀ j, j < rl none → u.rx.b j = rf none j) (htb : ∀ j, j < rl none → u.tx.b j = rf none j) (h0 : 0 ≤ i) (hL : i < (L : Int)) (h2 : i < 200)
    (hq : ∀ o, InvO o → o.i = i + 1 → o.len = L → o.cap = cp → o.g = mkg k c → q o = true) (hk : kap k i = 2) (hn : u.tx.n < 16) : roundNN L cp k c u r1 r2 u.ov i q kk = true := by
  simp only [rl] at hrx htx hrb htb
  have m1 := okU_may hu
  obtain ⟨a1, a2, _⟩ := mayB_iff.1 m1.1
  obtain ⟨b1, b2, _⟩ := mayB_iff.1 m1.2
  have g1 := decide_eq_true hL
  have g2 := decide_eq_true h2
  have g3 : inB i L = true := by simp [inB, h0, hL]
  have g4 : Nat.blt i.toNat L = true := blt_iff.2 (by omega)
  have g5 : ((okU u) && (!(latch u))) = true := by rw [hu, hl]; rfl
  have g6 := wrap_next h0 h2
  have k0 : (kap k i == 0) = false := beqF (by omega)
  have k1 : (kap k i == 1) = false := beqF (by omega)
  have k2 : (kap k i == 2) = true := beqT hk
  have k3 : (kap k i == 3) = false := beqF (by omega)
  have k4 : (kap k i == 4) = false := beqF (by omega)
  obtain ⟨w, w1, w2⟩ := write_room hu hn (ch c i)
  have e1 := w.ok
  have e2 := w.ok
  have e3 : ((write0U u (ch c i)).tx.n != 1) = false := bneF (by rw [w.tx, htx]; rfl)
  have e4 : ((write0U u (ch c i)).rx.n != 0) = false := bneF (by rw [w.rx, hrx]; rfl)
  have hleaf : (q (OS.mk L cp (mkg k c) (write0U u (ch c i)) none (some (Row.mk 1 (fun j => (ch c i)))) u.ov (IntKind.wrap .i64 (i + 1)))) = true := by
    rw [g6]
    refine hq _ ⟨w.ok, w.lat.trans hl, ?_, ?_, ?_, ?_, w.ov⟩ rfl rfl rfl rfl
    · show (write0U u (ch c i)).rx.n = _; rw [w.rx, hrx]; simp [rl]
    · show (write0U u (ch c i)).tx.n = _; rw [w.tx, htx]; simp [rl]
    · intro j hj; show (write0U u (ch c i)).rx.b j = _; rw [w1]; simp [rl] at hj
    · intro j hj; show (write0U u (ch c i)).tx.b j = _
      simp only [rl] at hj
      rw [w2]
      rw [if_pos (by omega)]; rfl
  unfold roundNN
  refine condT g1 ?_
  refine condT g2 ?_
  refine condT g3 ?_
  refine condT g4 ?_
  refine condF k0 ?_
  refine condF k1 ?_
  refine condT k2 ?_
  refine condT k2 ?_
  refine condT g3 ?_
  refine condT g4 ?_
  refine condT (condTT (andT hu (notT hl)) (condTT g3 (condTT g4 (condTT w.ok (condFT e4 (condFT e3 (condFT (notF (beqB w.ov)) (condTT (andT (bqS _) rfl) hleaf)))))))) ?_
  refine condT (andT hu (notT hl)) ?_
  refine condT g3 ?_
  refine condT g4 ?_
  refine condT w.ok ?_
  refine condF e4 ?_
  refine condF e3 ?_
  refine condF (notF (beqB w.ov)) ?_
  refine condT (andT (bqS _) rfl) ?_
  exact hleaf

set_option maxRecDepth 100000 in
set_option maxHeartbeats 2000000 in
theorem roundNN_write3 {L cp : Nat} {k c : Nat → Int} {u : Us} {r1 r2 : Row} {i : Int} {q : OS → Bool} {kk : K} (hu : okU u = true) (hl : latch u = false) (hrx : u.rx.n = (rl none : Int)) (htx : u.tx.n = (rl none : Int)) (hrb : ∀ j, j < rl none → u.rx.b j = rf none j) (htb : ∀ j, j < rl none → u.tx.b j = rf none j) (h0 : 0 ≤ i) (hL : i < (L : Int)) (h2 : i < 200)
    (hq : ∀ o, InvO o → o.i = i + 1 → o.len = L → o.cap = cp → o.g = mkg k c → q o = true) (hk : kap k i = 3) (hn : u.tx.n < 16) : roundNN L cp k c u r1 r2 u.ov i q kk = true := by
  simp only [rl] at hrx htx hrb htb
  have m1 := okU_may hu
  obtain ⟨a1, a2, _⟩ := mayB_iff.1 m1.1
  obtain ⟨b1, b2, _⟩ := mayB_iff.1 m1.2
  have g1 := decide_eq_true hL
  have g2 := decide_eq_true h2
  have g3 : inB i L = true := by simp [inB, h0, hL]
  have g4 : Nat.blt i.toNat L = true := blt_iff.2 (by omega)
  have g5 : ((okU u) && (!(latch u))) = true := by rw [hu, hl]; rfl
  have g6 := wrap_next h0 h2
  have k0 : (kap k i == 0) = false := beqF (by omega)
  have k1 : (kap k i == 1) = false := beqF (by omega)
  have k2 : (kap k i == 2) = false := beqF (by omega)
  have k3 : (kap k i == 3) = true := beqT hk
  have k4 : (kap k i == 4) = false := beqF (by omega)
  obtain ⟨w, w1, w2⟩ := write_room hu hn (ch c i)
  have e1 := w.ok
  have e2 := w.ok
  have e3 : ((write0U u (ch c i)).tx.n != 1) = false := bneF (by rw [w.tx, htx]; rfl)
  have e4 : ((write0U u (ch c i)).rx.n != 0) = false := bneF (by rw [w.rx, hrx]; rfl)
  have hleaf : (q (OS.mk L cp (mkg k c) (write0U u (ch c i)) none (some (Row.mk 1 (fun j => (ch c i)))) u.ov (IntKind.wrap .i64 (i + 1)))) = true := by
    rw [g6]
    refine hq _ ⟨w.ok, w.lat.trans hl, ?_, ?_, ?_, ?_, w.ov⟩ rfl rfl rfl rfl
    · show (write0U u (ch c i)).rx.n = _; rw [w.rx, hrx]; simp [rl]
    · show (write0U u (ch c i)).tx.n = _; rw [w.tx, htx]; simp [rl]
    · intro j hj; show (write0U u (ch c i)).rx.b j = _; rw [w1]; simp [rl] at hj
    · intro j hj; show (write0U u (ch c i)).tx.b j = _
      simp only [rl] at hj
      rw [w2]
      rw [if_pos (by omega)]; rfl
  unfold roundNN
  refine condT g1 ?_
  refine condT g2 ?_
  refine condT g3 ?_
  refine condT g4 ?_
  refine condF k0 ?_
  refine condF k1 ?_
  refine condF k2 ?_
  refine condT k3 ?_
  refine condT g3 ?_
  refine condT g4 ?_
  refine condT (condTT (andT hu (notT hl)) (condTT g3 (condTT g4 (condTT w.ok (condFT e4 (condFT e3 (condFT (notF (beqB w.ov)) (condTT (andT (bqS _) rfl) hleaf)))))))) ?_
  refine condT (andT hu (notT hl)) ?_
  refine condT g3 ?_
  refine condT g4 ?_
  refine condT w.ok ?_
  refine condF e4 ?_
  refine condF e3 ?_
  refine condF (notF (beqB w.ov)) ?_
  refine condT (andT (bqS _) rfl) ?_
  exact hleaf

set_option maxRecDepth 100000 in
set_option maxHeartbeats 2000000 in
theorem roundNN_none {L cp : Nat} {k c : Nat → Int} {u : Us} {r1 r2 : Row} {i : Int} {q : OS → Bool} {kk : K} (hu : okU u = true) (hl : latch u = false) (hrx : u.rx.n = (rl none : Int)) (htx : u.tx.n = (rl none : Int)) (hrb : ∀ j, j < rl none → u.rx.b j = rf none j) (htb : ∀ j, j < rl none → u.tx.b j = rf none j) (h0 : 0 ≤ i) (hL : i < (L : Int)) (h2 : i < 200)
    (hq : ∀ o, InvO o → o.i = i + 1 → o.len = L → o.cap = cp → o.g = mkg k c → q o = true) (hk : kap k i = 4) (hn : u.rx.n = 0) : roundNN L cp k c u r1 r2 u.ov i q kk = true := by
  simp only [rl] at hrx htx hrb htb
  have m1 := okU_may hu
  obtain ⟨a1, a2, _⟩ := mayB_iff.1 m1.1
  obtain ⟨b1, b2, _⟩ := mayB_iff.1 m1.2
  have g1 := decide_eq_true hL
  have g2 := decide_eq_true h2
  have g3 : inB i L = true := by simp [inB, h0, hL]
  have g4 : Nat.blt i.toNat L = true := blt_iff.2 (by omega)
  have g5 : ((okU u) && (!(latch u))) = true := by rw [hu, hl]; rfl
  have g6 := wrap_next h0 h2
  have k0 : (kap k i == 0) = false := beqF (by omega)
  have k1 : (kap k i == 1) = false := beqF (by omega)
  have k2 : (kap k i == 2) = false := beqF (by omega)
  have k3 : (kap k i == 3) = false := beqF (by omega)
  have k4 : (kap k i == 4) = true := beqT hk
  obtain ⟨w, w1⟩ := read_none hn
  have e1 := hu
  have e6 := hu
  have e3 : (u.rx.n != 0) = false := bneF (by rw [hrx]; rfl)
  have e4 : (u.tx.n != 0) = false := bneF (by rw [htx]; rfl)
  have hleaf : (q (OS.mk L cp (mkg k c) (read0U u) none none u.ov (IntKind.wrap .i64 (i + 1)))) = true := by
    rw [g6]
    rw [w]
    refine hq _ ⟨hu, hl, ?_, ?_, ?_, ?_, rfl⟩ rfl rfl rfl rfl
    · simpa [rl] using hrx
    · simpa [rl] using htx
    · intro j hj; simp [rl] at hj
    · intro j hj; simp [rl] at hj
  unfold roundNN
  refine condT g1 ?_
  refine condT g2 ?_
  refine condT g3 ?_
  refine condT g4 ?_
  refine condF k0 ?_
  refine condF k1 ?_
  refine condF k2 ?_
  refine condF k3 ?_
  refine condT k4 ?_
  refine condT (andT hu (notT hl)) ?_
  refine condF (bneF w1) ?_
  refine condT (by rw [w]; exact hu) ?_
  refine condF (by rw [w]; exact e3) ?_
  refine condF (by rw [w]; exact e4) ?_
  refine condF (notF (beqB (by rw [w]))) ?_
  refine condT (andT (bqS _) rfl) ?_
  exact hleaf

set_option maxRecDepth 100000 in
set_option maxHeartbeats 2000000 in
theorem roundNN_rest {L cp : Nat} {k c : Nat → Int} {u : Us} {r1 r2 : Row} {i : Int} {q : OS → Bool} {kk : K} (hu : okU u = true) (hl : latch u = false) (hrx : u.rx.n = (rl none : Int)) (htx : u.tx.n = (rl none : Int)) (hrb : ∀ j, j < rl none → u.rx.b j = rf none j) (htb : ∀ j, j < rl none → u.tx.b j = rf none j) (h0 : 0 ≤ i) (hL : i < (L : Int)) (h2 : i < 200)
    (hq : ∀ o, InvO o → o.i = i + 1 → o.len = L → o.cap = cp → o.g = mkg k c → q o = true) (hk : kap k i ≠ 0 ∧ kap k i ≠ 1 ∧ kap k i ≠ 2 ∧ kap k i ≠ 3 ∧ kap k i ≠ 4) (hn : u.tx.n = 0) : roundNN L cp k c u r1 r2 u.ov i q kk = true := by
  simp only [rl] at hrx htx hrb htb
  have m1 := okU_may hu
  obtain ⟨a1, a2, _⟩ := mayB_iff.1 m1.1
  obtain ⟨b1, b2, _⟩ := mayB_iff.1 m1.2
  have g1 := decide_eq_true hL
  have g2 := decide_eq_true h2
  have g3 : inB i L = true := by simp [inB, h0, hL]
  have g4 : Nat.blt i.toNat L = true := blt_iff.2 (by omega)
  have g5 : ((okU u) && (!(latch u))) = true := by rw [hu, hl]; rfl
  have g6 := wrap_next h0 h2
  have k0 : (kap k i == 0) = false := beqF (by omega)
  have k1 : (kap k i == 1) = false := beqF (by omega)
  have k2 : (kap k i == 2) = false := beqF (by omega)
  have k3 : (kap k i == 3) = false := beqF (by omega)
  have k4 : (kap k i == 4) = false := beqF (by omega)
  obtain ⟨w, w4⟩ := tick_none hu hn
  have e3 : (u.rx.n != 0) = false := bneF (by rw [hrx]; rfl)
  have e4 : (u.tx.n != 0) = false := bneF (by rw [htx]; rfl)
  have hleaf : (q (OS.mk L cp (mkg k c) (tickU u) none none u.ov (IntKind.wrap .i64 (i + 1)))) = true := by
    rw [g6]
    rw [w]
    refine hq _ ⟨hu, hl, ?_, ?_, ?_, ?_, rfl⟩ rfl rfl rfl rfl
    · simpa [rl] using hrx
    · simpa [rl] using htx
    · intro j hj; simp [rl] at hj
    · intro j hj; simp [rl] at hj
  unfold roundNN
  refine condT g1 ?_
  refine condT g2 ?_
  refine condT g3 ?_
  refine condT g4 ?_
  refine condF k0 ?_
  refine condF k1 ?_
  refine condF k2 ?_
  refine condF k3 ?_
  refine condF k4 ?_
  refine condF w4 ?_
  refine condT (by rw [w]; exact hu) ?_
  refine condF (by rw [w]; exact e3) ?_
  refine condF (by rw [w]; exact e4) ?_
  refine condF (notF (beqB (by rw [w]))) ?_
  refine condT (andT (bqS _) rfl) ?_
  exact hleaf

theorem roundNN_true {L cp : Nat} {k c : Nat → Int} {u : Us} {r1 r2 : Row} {ov : Bool} {i : Int} {q : OS → Bool} {kk : K} (hI : InvO ⟨L, cp, mkg k c, u, none, none, ov, i⟩) (h0 : 0 ≤ i)
    (hk : kk (.exit 0) nilS = true) (hq : i < (L : Int) → i < 200 → ∀ o, InvO o → o.i = i + 1 → o.len = L → o.cap = cp → o.g = mkg k c → q o = true) : roundNN L cp k c u r1 r2 ov i q kk = true := by
  by_cases hL : i < (L : Int)
  rotate_left
  · unfold roundNN
    rw [decide_eq_false hL]
    exact hk
  by_cases h2 : i < 200
  rotate_left
  · unfold roundNN
    rw [decide_eq_true hL, decide_eq_false h2]
    exact hk
  obtain ⟨hu, hl, hrx, htx, hrb, htb, hov⟩ := hI
  replace hov : u.ov = ov := hov
  subst hov
  have m1 := okU_may hu
  obtain ⟨a1, a2, _⟩ := mayB_iff.1 m1.1
  obtain ⟨b1, b2, _⟩ := mayB_iff.1 m1.2
  have hw := (okU_iff.1 hu).2.2.2.2.2.1
  simp only at a1 a2 b1 b2 hw
  clear hk
  rcases kap_cases k i with hk | hk | hk | hk | hk | hk
  · exact roundNN_put0 hu hl hrx htx hrb htb h0 hL h2 (hq hL h2) hk (by rw [show u.rx.n = 0 from hrx]; decide)
  · exact roundNN_put1 hu hl hrx htx hrb htb h0 hL h2 (hq hL h2) hk (by rw [show u.rx.n = 0 from hrx]; decide)
  · exact roundNN_write2 hu hl hrx htx hrb htb h0 hL h2 (hq hL h2) hk (by rw [show u.tx.n = 0 from htx]; decide)
  · exact roundNN_write3 hu hl hrx htx hrb htb h0 hL h2 (hq hL h2) hk (by rw [show u.tx.n = 0 from htx]; decide)
  · exact roundNN_none hu hl hrx htx hrb htb h0 hL h2 (hq hL h2) hk hrx
  · exact roundNN_rest hu hl hrx htx hrb htb h0 hL h2 (hq hL h2) hk htx

end Go.Proofs.Yteionboacdkfjaa.X
