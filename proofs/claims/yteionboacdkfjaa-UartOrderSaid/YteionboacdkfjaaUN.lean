/-
  UART, part N: each round of 'UartOrder' keeps what is told at the loop's head, or ends it.
-/
import Derived.Test.YteionboacdkfjaaUM
namespace Go.Proofs.Yteionboacdkfjaa.X

theorem condT {c x y : Bool} (h : c = true) (hx : x = true) : cond c x y = true := by rw [h]; exact hx
theorem condF {c x y : Bool} (h : c = false) (hx : y = true) : cond c x y = true := by rw [h]; exact hx
theorem condTT {c x y : Bool} (h : c = true) (hx : x = true) : cond c x y = true := by rw [h]; exact hx
theorem condFT {c x y : Bool} (h : c = false) (hx : y = true) : cond c x y = true := by rw [h]; exact hx
theorem condTF {c x y : Bool} (h : c = true) (hx : x = false) : cond c x y = false := by rw [h]; exact hx
theorem condFF {c x y : Bool} (h : c = false) (hx : y = false) : cond c x y = false := by rw [h]; exact hx
theorem bleZ (n : Nat) : Nat.ble (0 + n) n = true := ble_iff.2 (by omega)
theorem bqM (n : Nat) : Nat.beq (n + 0) (n * 1) = true := beq_iff.2 (by omega)
theorem andT {a b : Bool} (h : a = true) (k : b = true) : (a && b) = true := by rw [h, k]; rfl
theorem andF {a b : Bool} (h : a = false) : (a && b) = false := by rw [h]; rfl
theorem andF2 {a b : Bool} (h : a = true) (k : b = false) : (a && b) = false := by rw [h, k]; rfl
theorem notT {a : Bool} (h : a = false) : (!a) = true := by rw [h]; rfl
theorem notF {a : Bool} (h : a = true) : (!a) = false := by rw [h]; rfl
theorem bleS (n : Nat) : Nat.ble n n = true := ble_iff.2 (Nat.le_refl n)
theorem bqS (n : Nat) : Nat.beq n n = true := beq_iff.2 rfl
theorem wrap_next {i : Int} (h0 : 0 ≤ i) (h1 : i < 200) : IntKind.i64.wrap (i + 1) = i + 1 := wrap_i64_in (by omega) (by omega)
theorem bne_refl' (a : Int) : (a != a) = false := by simp
theorem beq_refl' (a : Bool) : (a == a) = true := by simp
theorem beqF {a b : Int} (h : a ≠ b) : (a == b) = false := beq_eq_false_iff_ne.2 h
theorem beqT {a b : Int} (h : a = b) : (a == b) = true := beq_iff_eq.2 h
theorem beqB {a b : Bool} (h : a = b) : (a == b) = true := by simp [h]
theorem bneF {a b : Int} (h : a = b) : (a != b) = false := by simp [h]
theorem bneT {a b : Int} (h : a ≠ b) : (a != b) = true := by simpa using h

set_option maxRecDepth 100000 in
set_option maxHeartbeats 2000000 in
theorem roundSS_put0 {L cp : Nat} {k c : Nat → Int} {u : Us} {r1 r2 : Row} {i : Int} {q : OS → Bool} {kk : K} (hu : okU u = true) (hl : latch u = false) (hrx : u.rx.n = (rl (some r1) : Int)) (htx : u.tx.n = (rl (some r2) : Int)) (hrb : ∀ j, j < rl (some r1) → u.rx.b j = rf (some r1) j) (htb : ∀ j, j < rl (some r2) → u.tx.b j = rf (some r2) j) (h0 : 0 ≤ i) (hL : i < (L : Int)) (h2 : i < 200)
    (hq : ∀ o, InvO o → o.i = i + 1 → o.len = L → o.cap = cp → o.g = mkg k c → q o = true) (hk : kap k i = 0) (hn : u.rx.n < 16) : roundSS L cp k c u r1 r2 u.ov i q kk = true := by
  simp only [rl] at hrx htx hrb htb
  have m1 := okU_may hu
  obtain ⟨a1, a2, _⟩ := mayB_iff.1 m1.1
  obtain ⟨b1, b2, _⟩ := mayB_iff.1 m1.2
  have g1 := decide_eq_true hL
  have g2 := decide_eq_true h2
  have g3 : inB i L = true := by simp [inB, h0, hL]
  have g4 : Nat.blt i.toNat L = true := blt_iff.2 (by omega)
  have g5 : ((okU u) && (!(latch u))) = true := by rw [hu, hl]; rfl
  have g6 := wrap_next h0 h2
  have k0 : (kap k i == 0) = true := beqT hk
  have k1 : (kap k i == 1) = false := beqF (by omega)
  have k2 : (kap k i == 2) = false := beqF (by omega)
  have k3 : (kap k i == 3) = false := beqF (by omega)
  have k4 : (kap k i == 4) = false := beqF (by omega)
  obtain ⟨w, w1, w2⟩ := put_room hu hn (ch c i)
  have e1 : decide (((r1.n : Nat) : Int) < 16) = true := decide_eq_true (by omega)
  have e2 : Nat.ble ((r1.n + 1) * 2) 68719476736 = true := ble_iff.2 (by omega)
  have e3 : ((putU u (ch c i)).rx.n != (((r1.n + 1) : Nat) : Int)) = false := bneF (by rw [w.rx, hrx]; omega)
  have e4 : ((putU u (ch c i)).tx.n != ((r2.n : Nat) : Int)) = false := bneF (by rw [w.tx, htx])
  have hleaf : (q (OS.mk L cp (mkg k c) (putU u (ch c i)) (some (Row.mk (r1.n + 1) (fun j => (cond (Nat.blt (0 + j) r1.n) (r1.f (0 + j)) (ch c i))))) (some (Row.mk r2.n (fun j => (r2.f (0 + j))))) u.ov (IntKind.wrap .i64 (i + 1)))) = true := by
    rw [g6]
    refine hq _ ⟨w.ok, w.lat.trans hl, ?_, ?_, ?_, ?_, w.ov⟩ rfl rfl rfl rfl
    · show (putU u (ch c i)).rx.n = _; rw [w.rx, hrx]; simp [rl]
    · show (putU u (ch c i)).tx.n = _; rw [w.tx, htx]; simp [rl]
    · intro j hj; show (putU u (ch c i)).rx.b j = _
      simp only [rl] at hj
      rw [w2]
      simp only [rf, Bool.cond_eq_ite, blt_iff, Nat.zero_add]
      by_cases z : j < r1.n
      · rw [if_neg (by omega), if_pos z]; exact hrb j z
      · rw [if_pos (by omega), if_neg z]
    · intro j hj; show (putU u (ch c i)).tx.b j = _; rw [w1]; simpa [rf] using htb j (by simpa [rl] using hj)
  unfold roundSS
  refine condT g1 ?_
  refine condT g2 ?_
  refine condT g3 ?_
  refine condT g4 ?_
  refine condT k0 ?_
  refine condT k0 ?_
  refine condT g3 ?_
  refine condT g4 ?_
  refine condT e1 ?_
  refine condT g3 ?_
  refine condT g4 ?_
  refine condT (andT (bleS _) (andT (bqM _) e2)) ?_
  refine condT w.ok ?_
  refine condF e3 ?_
  refine condF e4 ?_
  refine condF (notF (beqB w.ov)) ?_
  refine condT (andT (bqS _) (andT (bleZ _) (bleZ _))) ?_
  exact hleaf

set_option maxRecDepth 100000 in
set_option maxHeartbeats 2000000 in
theorem roundSS_full0 {L cp : Nat} {k c : Nat → Int} {u : Us} {r1 r2 : Row} {i : Int} {q : OS → Bool} {kk : K} (hu : okU u = true) (hl : latch u = false) (hrx : u.rx.n = (rl (some r1) : Int)) (htx : u.tx.n = (rl (some r2) : Int)) (hrb : ∀ j, j < rl (some r1) → u.rx.b j = rf (some r1) j) (htb : ∀ j, j < rl (some r2) → u.tx.b j = rf (some r2) j) (h0 : 0 ≤ i) (hL : i < (L : Int)) (h2 : i < 200)
    (hq : ∀ o, InvO o → o.i = i + 1 → o.len = L → o.cap = cp → o.g = mkg k c → q o = true) (hk : kap k i = 0) (hn : u.rx.n = 16) : roundSS L cp k c u r1 r2 u.ov i q kk = true := by
  simp only [rl] at hrx htx hrb htb
  have m1 := okU_may hu
  obtain ⟨a1, a2, _⟩ := mayB_iff.1 m1.1
  obtain ⟨b1, b2, _⟩ := mayB_iff.1 m1.2
  have g1 := decide_eq_true hL
  have g2 := decide_eq_true h2
  have g3 : inB i L = true := by simp [inB, h0, hL]
  have g4 : Nat.blt i.toNat L = true := blt_iff.2 (by omega)
  have g5 : ((okU u) && (!(latch u))) = true := by rw [hu, hl]; rfl
  have g6 := wrap_next h0 h2
  have k0 : (kap k i == 0) = true := beqT hk
  have k1 : (kap k i == 1) = false := beqF (by omega)
  have k2 : (kap k i == 2) = false := beqF (by omega)
  have k3 : (kap k i == 3) = false := beqF (by omega)
  have k4 : (kap k i == 4) = false := beqF (by omega)
  obtain ⟨w, w1, w2⟩ := put_full hu hn (ch c i)
  have e1 : decide (((r1.n : Nat) : Int) < 16) = false := decide_eq_false (by omega)
  have e3 : ((putU u (ch c i)).rx.n != ((r1.n : Nat) : Int)) = false := bneF (by rw [w.rx, hrx])
  have e4 : ((putU u (ch c i)).tx.n != ((r2.n : Nat) : Int)) = false := bneF (by rw [w.tx, htx])
  have hleaf : (q (OS.mk L cp (mkg k c) (putU u (ch c i)) (some (Row.mk r1.n (fun j => (r1.f (0 + j))))) (some (Row.mk r2.n (fun j => (r2.f (0 + j))))) true (IntKind.wrap .i64 (i + 1)))) = true := by
    rw [g6]
    refine hq _ ⟨w.ok, w.lat.trans hl, ?_, ?_, ?_, ?_, w.ov⟩ rfl rfl rfl rfl
    · show (putU u (ch c i)).rx.n = _; rw [w.rx, hrx]; simp [rl]
    · show (putU u (ch c i)).tx.n = _; rw [w.tx, htx]; simp [rl]
    · intro j hj; show (putU u (ch c i)).rx.b j = _; rw [w2]; simpa [rf] using hrb j (by simpa [rl] using hj)
    · intro j hj; show (putU u (ch c i)).tx.b j = _; rw [w1]; simpa [rf] using htb j (by simpa [rl] using hj)
  unfold roundSS
  refine condT g1 ?_
  refine condT g2 ?_
  refine condT g3 ?_
  refine condT g4 ?_
  refine condT k0 ?_
  refine condT k0 ?_
  refine condT g3 ?_
  refine condT g4 ?_
  refine condF e1 ?_
  refine condT w.ok ?_
  refine condF e3 ?_
  refine condF e4 ?_
  refine condF (notF (beqB w.ov)) ?_
  refine condT (andT (bqS _) (andT (bleZ _) (bleZ _))) ?_
  exact hleaf

set_option maxRecDepth 100000 in
set_option maxHeartbeats 2000000 in
theorem roundSS_put1 {L cp : Nat} {k c : Nat → Int} {u : Us} {r1 r2 : Row} {i : Int} {q : OS → Bool} {kk : K} (hu : okU u = true) (hl : latch u = false) (hrx : u.rx.n = (rl (some r1) : Int)) (htx : u.tx.n = (rl (some r2) : Int)) (hrb : ∀ j, j < rl (some r1) → u.rx.b j = rf (some r1) j) (htb : ∀ j, j < rl (some r2) → u.tx.b j = rf (some r2) j) (h0 : 0 ≤ i) (hL : i < (L : Int)) (h2 : i < 200)
    (hq : ∀ o, InvO o → o.i = i + 1 → o.len = L → o.cap = cp → o.g = mkg k c → q o = true) (hk : kap k i = 1) (hn : u.rx.n < 16) : roundSS L cp k c u r1 r2 u.ov i q kk = true := by
  simp only [rl] at hrx htx hrb htb
  have m1 := okU_may hu
  obtain ⟨a1, a2, _⟩ := mayB_iff.1 m1.1
  obtain ⟨b1, b2, _⟩ := mayB_iff.1 m1.2
  have g1 := decide_eq_true hL
  have g2 := decide_eq_true h2
  have g3 : inB i L = true := by simp [inB, h0, hL]
  have g4 : Nat.blt i.toNat L = true := blt_iff.2 (by omega)
  have g5 : ((okU u) && (!(latch u))) = true := by rw [hu, hl]; rfl
  have g6 := wrap_next h0 h2
  have k0 : (kap k i == 0) = false := beqF (by omega)
  have k1 : (kap k i == 1) = true := beqT hk
  have k2 : (kap k i == 2) = false := beqF (by omega)
  have k3 : (kap k i == 3) = false := beqF (by omega)
  have k4 : (kap k i == 4) = false := beqF (by omega)
  obtain ⟨w, w1, w2⟩ := put_room hu hn (ch c i)
  have e1 : decide (((r1.n : Nat) : Int) < 16) = true := decide_eq_true (by omega)
  have e2 : Nat.ble ((r1.n + 1) * 2) 68719476736 = true := ble_iff.2 (by omega)
  have e3 : ((putU u (ch c i)).rx.n != (((r1.n + 1) : Nat) : Int)) = false := bneF (by rw [w.rx, hrx]; omega)
  have e4 : ((putU u (ch c i)).tx.n != ((r2.n : Nat) : Int)) = false := bneF (by rw [w.tx, htx])
  have hleaf : (q (OS.mk L cp (mkg k c) (putU u (ch c i)) (some (Row.mk (r1.n + 1) (fun j => (cond (Nat.blt (0 + j) r1.n) (r1.f (0 + j)) (ch c i))))) (some (Row.mk r2.n (fun j => (r2.f (0 + j))))) u.ov (IntKind.wrap .i64 (i + 1)))) = true := by
    rw [g6]
    refine hq _ ⟨w.ok, w.lat.trans hl, ?_, ?_, ?_, ?_, w.ov⟩ rfl rfl rfl rfl
    · show (putU u (ch c i)).rx.n = _; rw [w.rx, hrx]; simp [rl]
    · show (putU u (ch c i)).tx.n = _; rw [w.tx, htx]; simp [rl]
    · intro j hj; show (putU u (ch c i)).rx.b j = _
      simp only [rl] at hj
      rw [w2]
      simp only [rf, Bool.cond_eq_ite, blt_iff, Nat.zero_add]
      by_cases z : j < r1.n
      · rw [if_neg (by omega), if_pos z]; exact hrb j z
      · rw [if_pos (by omega), if_neg z]
    · intro j hj; show (putU u (ch c i)).tx.b j = _; rw [w1]; simpa [rf] using htb j (by simpa [rl] using hj)
  unfold roundSS
  refine condT g1 ?_
  refine condT g2 ?_
  refine condT g3 ?_
  refine condT g4 ?_
  refine condF k0 ?_
  refine condT k1 ?_
  refine condT g3 ?_
  refine condT g4 ?_
  refine condT e1 ?_
  refine condT g3 ?_
  refine condT g4 ?_
  refine condT (andT (bleS _) (andT (bqM _) e2)) ?_
  refine condT w.ok ?_
  refine condF e3 ?_
  refine condF e4 ?_
  refine condF (notF (beqB w.ov)) ?_
  refine condT (andT (bqS _) (andT (bleZ _) (bleZ _))) ?_
  exact hleaf

set_option maxRecDepth 100000 in
set_option maxHeartbeats 2000000 in
theorem roundSS_full1 {L cp : Nat} {k c : Nat → Int} {u : Us} {r1 r2 : Row} {i : Int} {q : OS → Bool} {kk : K} (hu : okU u = true) (hl : latch u = false) (hrx : u.rx.n = (rl (some r1) : Int)) (htx : u.tx.n = (rl (some r2) : Int)) (hrb : ∀ j, j < rl (some r1) → u.rx.b j = rf (some r1) j) (htb : ∀ j, j < rl (some r2) → u.tx.b j = rf (some r2) j) (h0 : 0 ≤ i) (hL : i < (L : Int)) (h2 : i < 200)
    (hq : ∀ o, InvO o → o.i = i + 1 → o.len = L → o.cap = cp → o.g = mkg k c → q o = true) (hk : kap k i = 1) (hn : u.rx.n = 16) : roundSS L cp k c u r1 r2 u.ov i q kk = true := by
  simp only [rl] at hrx htx hrb htb
  have m1 := okU_may hu
  obtain ⟨a1, a2, _⟩ := mayB_iff.1 m1.1
  obtain ⟨b1, b2, _⟩ := mayB_iff.1 m1.2
  have g1 := decide_eq_true hL
  have g2 := decide_eq_true h2
  have g3 : inB i L = true := by simp [inB, h0, hL]
  have g4 : Nat.blt i.toNat L = true := blt_iff.2 (by omega)
  have g5 : ((okU u) && (!(latch u))) = true := by rw [hu, hl]; rfl
  have g6 := wrap_next h0 h2
  have k0 : (kap k i == 0) = false := beqF (by omega)
  have k1 : (kap k i == 1) = true := beqT hk
  have k2 : (kap k i == 2) = false := beqF (by omega)
  have k3 : (kap k i == 3) = false := beqF (by omega)
  have k4 : (kap k i == 4) = false := beqF (by omega)
  obtain ⟨w, w1, w2⟩ := put_full hu hn (ch c i)
  have e1 : decide (((r1.n : Nat) : Int) < 16) = false := decide_eq_false (by omega)
  have e3 : ((putU u (ch c i)).rx.n != ((r1.n : Nat) : Int)) = false := bneF (by rw [w.rx, hrx])
  have e4 : ((putU u (ch c i)).tx.n != ((r2.n : Nat) : Int)) = false := bneF (by rw [w.tx, htx])
  have hleaf : (q (OS.mk L cp (mkg k c) (putU u (ch c i)) (some (Row.mk r1.n (fun j => (r1.f (0 + j))))) (some (Row.mk r2.n (fun j => (r2.f (0 + j))))) true (IntKind.wrap .i64 (i + 1)))) = true := by
    rw [g6]
    refine hq _ ⟨w.ok, w.lat.trans hl, ?_, ?_, ?_, ?_, w.ov⟩ rfl rfl rfl rfl
    · show (putU u (ch c i)).rx.n = _; rw [w.rx, hrx]; simp [rl]
    · show (putU u (ch c i)).tx.n = _; rw [w.tx, htx]; simp [rl]
    · intro j hj; show (putU u (ch c i)).rx.b j = _; rw [w2]; simpa [rf] using hrb j (by simpa [rl] using hj)
    · intro j hj; show (putU u (ch c i)).tx.b j = _; rw [w1]; simpa [rf] using htb j (by simpa [rl] using hj)
  unfold roundSS
  refine condT g1 ?_
  refine condT g2 ?_
  refine condT g3 ?_
  refine condT g4 ?_
  refine condF k0 ?_
  refine condT k1 ?_
  refine condT g3 ?_
  refine condT g4 ?_
  refine condF e1 ?_
  refine condT w.ok ?_
  refine condF e3 ?_
  refine condF e4 ?_
  refine condF (notF (beqB w.ov)) ?_
  refine condT (andT (bqS _) (andT (bleZ _) (bleZ _))) ?_
  exact hleaf

set_option maxRecDepth 100000 in
set_option maxHeartbeats 2000000 in
theorem roundSS_write2 {L cp : Nat} {k c : Nat → Int} {u : Us} {r1 r2 : Row} {i : Int} {q : OS → Bool} {kk : K} (hu : okU u = true) (hl : latch u = false) (hrx : u.rx.n = (rl (some r1) : Int)) (htx : u.tx.n = (rl (some r2) : Int)) (hrb : ∀ j, j < rl (some r1) → u.rx.b j = rf (some r1) j) (htb : ∀ j, j < rl (some r2) → u.tx.b j = rf (some r2) j) (h0 : 0 ≤ i) (hL : i < (L : Int)) (h2 : i < 200)
    (hq : ∀ o, InvO o → o.i = i + 1 → o.len = L → o.cap = cp → o.g = mkg k c → q o = true) (hk : kap k i = 2) (hn : u.tx.n < 16) : roundSS L cp k c u r1 r2 u.ov i q kk = true := by
  simp only [rl] at hrx htx hrb htb
  have m1 := okU_may hu
  obtain ⟨a1, a2, _⟩ := mayB_iff.1 m1.1
  obtain ⟨b1, b2, _⟩ := mayB_iff.1 m1.2
  have g1 := decide_eq_true hL
  have g2 := decide_eq_true h2
  have g3 : inB i L = true := by simp [inB, h0, hL]
  have g4 : Nat.blt i.toNat L = true := blt_iff.2 (by omega)
  have g5 : ((okU u) && (!(latch u))) = true := by rw [hu, hl]; rfl
  have g6 := wrap_next h0 h2
  have k0 : (kap k i == 0) = false := beqF (by omega)
  have k1 : (kap k i == 1) = false := beqF (by omega)
  have k2 : (kap k i == 2) = true := beqT hk
  have k3 : (kap k i == 3) = false := beqF (by omega)
  have k4 : (kap k i == 4) = false := beqF (by omega)
  obtain ⟨w, w1, w2⟩ := write_room hu hn (ch c i)
  have e1 : decide (((r2.n : Nat) : Int) < 16) = true := decide_eq_true (by omega)
  have e2 : Nat.ble ((r2.n + 1) * 2) 68719476736 = true := ble_iff.2 (by omega)
  have e3 : ((write0U u (ch c i)).tx.n != (((r2.n + 1) : Nat) : Int)) = false := bneF (by rw [w.tx, htx]; omega)
  have e4 : ((write0U u (ch c i)).rx.n != ((r1.n : Nat) : Int)) = false := bneF (by rw [w.rx, hrx])
  have hleaf : (q (OS.mk L cp (mkg k c) (write0U u (ch c i)) (some (Row.mk r1.n (fun j => (r1.f (0 + j))))) (some (Row.mk (r2.n + 1) (fun j => (cond (Nat.blt (0 + j) r2.n) (r2.f (0 + j)) (ch c i))))) u.ov (IntKind.wrap .i64 (i + 1)))) = true := by
    rw [g6]
    refine hq _ ⟨w.ok, w.lat.trans hl, ?_, ?_, ?_, ?_, w.ov⟩ rfl rfl rfl rfl
    · show (write0U u (ch c i)).rx.n = _; rw [w.rx, hrx]; simp [rl]
    · show (write0U u (ch c i)).tx.n = _; rw [w.tx, htx]; simp [rl]
    · intro j hj; show (write0U u (ch c i)).rx.b j = _; rw [w1]; simpa [rf] using hrb j (by simpa [rl] using hj)
    · intro j hj; show (write0U u (ch c i)).tx.b j = _
      simp only [rl] at hj
      rw [w2]
      simp only [rf, Bool.cond_eq_ite, blt_iff, Nat.zero_add]
      by_cases z : j < r2.n
      · rw [if_neg (by omega), if_pos z]; exact htb j z
      · rw [if_pos (by omega), if_neg z]
  unfold roundSS
  refine condT g1 ?_
  refine condT g2 ?_
  refine condT g3 ?_
  refine condT g4 ?_
  refine condF k0 ?_
  refine condF k1 ?_
  refine condT k2 ?_
  refine condT k2 ?_
  refine condT g3 ?_
  refine condT g4 ?_
  refine condT (condTT (andT hu (notT hl)) (condTT e1 (condTT g3 (condTT g4 (condTT (andT (bleS _) (andT (bqM _) e2)) (condTT w.ok (condFT e4 (condFT e3 (condFT (notF (beqB w.ov)) (condTT (andT (bqS _) (andT (bleZ _) (bleZ _))) hleaf)))))))))) ?_
  refine condT (andT hu (notT hl)) ?_
  refine condT e1 ?_
  refine condT g3 ?_
  refine condT g4 ?_
  refine condT (andT (bleS _) (andT (bqM _) e2)) ?_
  refine condT w.ok ?_
  refine condF e4 ?_
  refine condF e3 ?_
  refine condF (notF (beqB w.ov)) ?_
  refine condT (andT (bqS _) (andT (bleZ _) (bleZ _))) ?_
  exact hleaf

set_option maxRecDepth 100000 in
set_option maxHeartbeats 2000000 in
theorem roundSS_whole2 {L cp : Nat} {k c : Nat → Int} {u : Us} {r1 r2 : Row} {i : Int} {q : OS → Bool} {kk : K} (hu : okU u = true) (hl : latch u = false) (hrx : u.rx.n = (rl (some r1) : Int)) (htx : u.tx.n = (rl (some r2) : Int)) (hrb : ∀ j, j < rl (some r1) → u.rx.b j = rf (some r1) j) (htb : ∀ j, j < rl (some r2) → u.tx.b j = rf (some r2) j) (h0 : 0 ≤ i) (hL : i < (L : Int)) (h2 : i < 200)
    (hq : ∀ o, InvO o → o.i = i + 1 → o.len = L → o.cap = cp → o.g = mkg k c → q o = true) (hk : kap k i = 2) (hn : u.tx.n = 16) : roundSS L cp k c u r1 r2 u.ov i q kk = true := by
  simp only [rl] at hrx htx hrb htb
  have m1 := okU_may hu
  obtain ⟨a1, a2, _⟩ := mayB_iff.1 m1.1
  obtain ⟨b1, b2, _⟩ := mayB_iff.1 m1.2
  have g1 := decide_eq_true hL
  have g2 := decide_eq_true h2
  have g3 : inB i L = true := by simp [inB, h0, hL]
  have g4 : Nat.blt i.toNat L = true := blt_iff.2 (by omega)
  have g5 : ((okU u) && (!(latch u))) = true := by rw [hu, hl]; rfl
  have g6 := wrap_next h0 h2
  have k0 : (kap k i == 0) = false := beqF (by omega)
  have k1 : (kap k i == 1) = false := beqF (by omega)
  have k2 : (kap k i == 2) = true := beqT hk
  have k3 : (kap k i == 3) = false := beqF (by omega)
  have k4 : (kap k i == 4) = false := beqF (by omega)
  have w := write_full hu hn (ch c i)
  have e1 : decide (((r2.n : Nat) : Int) < 16) = false := decide_eq_false (by omega)
  have e3 : (u.tx.n != ((r2.n : Nat) : Int)) = false := bneF htx
  have e4 : (u.rx.n != ((r1.n : Nat) : Int)) = false := bneF (by rw [hrx])
  have hleaf : (q (OS.mk L cp (mkg k c) (write0U u (ch c i)) (some (Row.mk r1.n (fun j => (r1.f (0 + j))))) (some (Row.mk r2.n (fun j => (r2.f (0 + j))))) u.ov (IntKind.wrap .i64 (i + 1)))) = true := by
    rw [g6]
    rw [w]
    refine hq _ ⟨hu, hl, ?_, ?_, ?_, ?_, rfl⟩ rfl rfl rfl rfl
    · simpa [rl] using hrx
    · simpa [rl] using htx
    · intro j hj; simpa [rf] using hrb j (by simpa [rl] using hj)
    · intro j hj; simpa [rf] using htb j (by simpa [rl] using hj)
  unfold roundSS
  refine condT g1 ?_
  refine condT g2 ?_
  refine condT g3 ?_
  refine condT g4 ?_
  refine condF k0 ?_
  refine condF k1 ?_
  refine condT k2 ?_
  refine condT k2 ?_
  refine condT g3 ?_
  refine condT g4 ?_
  refine condT (condTT (andT hu (notT hl)) (condFT e1 (condTT (by rw [w]; exact hu) (condFT (by rw [w]; exact e4) (condFT (by rw [w]; exact e3) (condFT (notF (beqB (by rw [w]))) (condTT (andT (bqS _) (andT (bleZ _) (bleZ _))) hleaf))))))) ?_
  refine condT (andT hu (notT hl)) ?_
  refine condF e1 ?_
  refine condT (by rw [w]; exact hu) ?_
  refine condF (by rw [w]; exact e4) ?_
  refine condF (by rw [w]; exact e3) ?_
  refine condF (notF (beqB (by rw [w]))) ?_
  refine condT (andT (bqS _) (andT (bleZ _) (bleZ _))) ?_
  exact hleaf

set_option maxRecDepth 100000 in
set_option maxHeartbeats 2000000 in
theorem roundSS_write3 {L cp : Nat} {k c : Nat → Int} {u : Us} {r1 r2 : Row} {i : Int} {q : OS → Bool} {kk : K} (hu : okU u = true) (hl : latch u = false) (hrx : u.rx.n = (rl (some r1) : Int)) (htx : u.tx.n = (rl (some r2) : Int)) (hrb : ∀ j, j < rl (some r1) → u.rx.b j = rf (some r1) j) (htb : ∀ j, j < rl (some r2) → u.tx.b j = rf (some r2) j) (h0 : 0 ≤ i) (hL : i < (L : Int)) (h2 : i < 200)
    (hq : ∀ o, InvO o → o.i = i + 1 → o.len = L → o.cap = cp → o.g = mkg k c → q o = true) (hk : kap k i = 3) (hn : u.tx.n < 16) : roundSS L cp k c u r1 r2 u.ov i q kk = true := by
  simp only [rl] at hrx htx hrb htb
  have m1 := okU_may hu
  obtain ⟨a1, a2, _⟩ := mayB_iff.1 m1.1
  obtain ⟨b1, b2, _⟩ := mayB_iff.1 m1.2
  have g1 := decide_eq_true hL
  have g2 := decide_eq_true h2
  have g3 : inB i L = true := by simp [inB, h0, hL]
  have g4 : Nat.blt i.toNat L = true := blt_iff.2 (by omega)
  have g5 : ((okU u) && (!(latch u))) = true := by rw [hu, hl]; rfl
  have g6 := wrap_next h0 h2
  have k0 : (kap k i == 0) = false := beqF (by omega)
  have k1 : (kap k i == 1) = false := beqF (by omega)
  have k2 : (kap k i == 2) = false := beqF (by omega)
  have k3 : (kap k i == 3) = true := beqT hk
  have k4 : (kap k i == 4) = false := beqF (by omega)
  obtain ⟨w, w1, w2⟩ := write_room hu hn (ch c i)
  have e1 : decide (((r2.n : Nat) : Int) < 16) = true := decide_eq_true (by omega)
  have e2 : Nat.ble ((r2.n + 1) * 2) 68719476736 = true := ble_iff.2 (by omega)
  have e3 : ((write0U u (ch c i)).tx.n != (((r2.n + 1) : Nat) : Int)) = false := bneF (by rw [w.tx, htx]; omega)
  have e4 : ((write0U u (ch c i)).rx.n != ((r1.n : Nat) : Int)) = false := bneF (by rw [w.rx, hrx])
  have hleaf : (q (OS.mk L cp (mkg k c) (write0U u (ch c i)) (some (Row.mk r1.n (fun j => (r1.f (0 + j))))) (some (Row.mk (r2.n + 1) (fun j => (cond (Nat.blt (0 + j) r2.n) (r2.f (0 + j)) (ch c i))))) u.ov (IntKind.wrap .i64 (i + 1)))) = true := by
    rw [g6]
    refine hq _ ⟨w.ok, w.lat.trans hl, ?_, ?_, ?_, ?_, w.ov⟩ rfl rfl rfl rfl
    · show (write0U u (ch c i)).rx.n = _; rw [w.rx, hrx]; simp [rl]
    · show (write0U u (ch c i)).tx.n = _; rw [w.tx, htx]; simp [rl]
    · intro j hj; show (write0U u (ch c i)).rx.b j = _; rw [w1]; simpa [rf] using hrb j (by simpa [rl] using hj)
    · intro j hj; show (write0U u (ch c i)).tx.b j = _
      simp only [rl] at hj
      rw [w2]
      simp only [rf, Bool.cond_eq_ite, blt_iff, Nat.zero_add]
      by_cases z : j < r2.n
      · rw [if_neg (by omega), if_pos z]; exact htb j z
      · rw [if_pos (by omega), if_neg z]
  unfold roundSS
  refine condT g1 ?_
  refine condT g2 ?_
  refine condT g3 ?_
  refine condT g4 ?_
  refine condF k0 ?_
  refine condF k1 ?_
  refine condF k2 ?_
  refine condT k3 ?_
  refine condT g3 ?_
  refine condT g4 ?_
  refine condT (condTT (andT hu (notT hl)) (condTT e1 (condTT g3 (condTT g4 (condTT (andT (bleS _) (andT (bqM _) e2)) (condTT w.ok (condFT e4 (condFT e3 (condFT (notF (beqB w.ov)) (condTT (andT (bqS _) (andT (bleZ _) (bleZ _))) hleaf)))))))))) ?_
  refine condT (andT hu (notT hl)) ?_
  refine condT e1 ?_
  refine condT g3 ?_
  refine condT g4 ?_
  refine condT (andT (bleS _) (andT (bqM _) e2)) ?_
  refine condT w.ok ?_
  refine condF e4 ?_
  refine condF e3 ?_
  refine condF (notF (beqB w.ov)) ?_
  refine condT (andT (bqS _) (andT (bleZ _) (bleZ _))) ?_
  exact hleaf

set_option maxRecDepth 100000 in
set_option maxHeartbeats 2000000 in
theorem roundSS_whole3 {L cp : Nat} {k c : Nat → Int} {u : Us} {r1 r2 : Row} {i : Int} {q : OS → Bool} {kk : K} (hu : okU u = true) (hl : latch u = false) (hrx : u.rx.n = (rl (some r1) : Int)) (htx : u.tx.n = (rl (some r2) : Int)) (hrb : ∀ j, j < rl (some r1) → u.rx.b j = rf (some r1) j) (htb : ∀ j, j < rl (some r2) → u.tx.b j = rf (some r2) j) (h0 : 0 ≤ i) (hL : i < (L : Int)) (h2 : i < 200)
    (hq : ∀ o, InvO o → o.i = i + 1 → o.len = L → o.cap = cp → o.g = mkg k c → q o = true) (hk : kap k i = 3) (hn : u.tx.n = 16) : roundSS L cp k c u r1 r2 u.ov i q kk = true := by
  simp only [rl] at hrx htx hrb htb
  have m1 := okU_may hu
  obtain ⟨a1, a2, _⟩ := mayB_iff.1 m1.1
  obtain ⟨b1, b2, _⟩ := mayB_iff.1 m1.2
  have g1 := decide_eq_true hL
  have g2 := decide_eq_true h2
  have g3 : inB i L = true := by simp [inB, h0, hL]
  have g4 : Nat.blt i.toNat L = true := blt_iff.2 (by omega)
  have g5 : ((okU u) && (!(latch u))) = true := by rw [hu, hl]; rfl
  have g6 := wrap_next h0 h2
  have k0 : (kap k i == 0) = false := beqF (by omega)
  have k1 : (kap k i == 1) = false := beqF (by omega)
  have k2 : (kap k i == 2) = false := beqF (by omega)
  have k3 : (kap k i == 3) = true := beqT hk
  have k4 : (kap k i == 4) = false := beqF (by omega)
  have w := write_full hu hn (ch c i)
  have e1 : decide (((r2.n : Nat) : Int) < 16) = false := decide_eq_false (by omega)
  have e3 : (u.tx.n != ((r2.n : Nat) : Int)) = false := bneF htx
  have e4 : (u.rx.n != ((r1.n : Nat) : Int)) = false := bneF (by rw [hrx])
  have hleaf : (q (OS.mk L cp (mkg k c) (write0U u (ch c i)) (some (Row.mk r1.n (fun j => (r1.f (0 + j))))) (some (Row.mk r2.n (fun j => (r2.f (0 + j))))) u.ov (IntKind.wrap .i64 (i + 1)))) = true := by
    rw [g6]
    rw [w]
    refine hq _ ⟨hu, hl, ?_, ?_, ?_, ?_, rfl⟩ rfl rfl rfl rfl
    · simpa [rl] using hrx
    · simpa [rl] using htx
    · intro j hj; simpa [rf] using hrb j (by simpa [rl] using hj)
    · intro j hj; simpa [rf] using htb j (by simpa [rl] using hj)
  unfold roundSS
  refine condT g1 ?_
  refine condT g2 ?_
  refine condT g3 ?_
  refine condT g4 ?_
  refine condF k0 ?_
  refine condF k1 ?_
  refine condF k2 ?_
  refine condT k3 ?_
  refine condT g3 ?_
  refine condT g4 ?_
  refine condT (condTT (andT hu (notT hl)) (condFT e1 (condTT (by rw [w]; exact hu) (condFT (by rw [w]; exact e4) (condFT (by rw [w]; exact e3) (condFT (notF (beqB (by rw [w]))) (condTT (andT (bqS _) (andT (bleZ _) (bleZ _))) hleaf))))))) ?_
  refine condT (andT hu (notT hl)) ?_
  refine condF e1 ?_
  refine condT (by rw [w]; exact hu) ?_
  refine condF (by rw [w]; exact e4) ?_
  refine condF (by rw [w]; exact e3) ?_
  refine condF (notF (beqB (by rw [w]))) ?_
  refine condT (andT (bqS _) (andT (bleZ _) (bleZ _))) ?_
  exact hleaf

set_option maxRecDepth 100000 in
set_option maxHeartbeats 2000000 in
theorem roundSS_read {L cp : Nat} {k c : Nat → Int} {u : Us} {r1 r2 : Row} {i : Int} {q : OS → Bool} {kk : K} (hu : okU u = true) (hl : latch u = false) (hrx : u.rx.n = (rl (some r1) : Int)) (htx : u.tx.n = (rl (some r2) : Int)) (hrb : ∀ j, j < rl (some r1) → u.rx.b j = rf (some r1) j) (htb : ∀ j, j < rl (some r2) → u.tx.b j = rf (some r2) j) (h0 : 0 ≤ i) (hL : i < (L : Int)) (h2 : i < 200)
    (hq : ∀ o, InvO o → o.i = i + 1 → o.len = L → o.cap = cp → o.g = mkg k c → q o = true) (hk : kap k i = 4) (hn : 0 < u.rx.n) : roundSS L cp k c u r1 r2 u.ov i q kk = true := by
  simp only [rl] at hrx htx hrb htb
  have m1 := okU_may hu
  obtain ⟨a1, a2, _⟩ := mayB_iff.1 m1.1
  obtain ⟨b1, b2, _⟩ := mayB_iff.1 m1.2
  have g1 := decide_eq_true hL
  have g2 := decide_eq_true h2
  have g3 : inB i L = true := by simp [inB, h0, hL]
  have g4 : Nat.blt i.toNat L = true := blt_iff.2 (by omega)
  have g5 : ((okU u) && (!(latch u))) = true := by rw [hu, hl]; rfl
  have g6 := wrap_next h0 h2
  have k0 : (kap k i == 0) = false := beqF (by omega)
  have k1 : (kap k i == 1) = false := beqF (by omega)
  have k2 : (kap k i == 2) = false := beqF (by omega)
  have k3 : (kap k i == 3) = false := beqF (by omega)
  have k4 : (kap k i == 4) = true := beqT hk
  obtain ⟨w, w1, w3, w2⟩ := read_some hu hn
  have e1 : decide (((r1.n : Nat) : Int) > 0) = true := decide_eq_true (by omega)
  have e1b : decide (0 < ((r1.n : Nat) : Int)) = true := decide_eq_true (by omega)
  have e2 : decide (1 ≤ ((r1.n : Nat) : Int)) = true := decide_eq_true (by omega)
  have e3 : ((read0U u).rx.n != (((r1.n - 1) : Nat) : Int)) = false := bneF (by rw [w.rx, hrx]; omega)
  have e4 : ((read0U u).tx.n != ((r2.n : Nat) : Int)) = false := bneF (by rw [w.tx, htx])
  have e5 : ((read0C u) != (r1.f 0)) = false := bneF (by rw [w3, hrb 0 (by omega)]; rfl)
  have e6 : (((r1.n : Nat) : Int) == 0) = false := beqF (by omega)
  have e7 : Nat.blt 0 r1.n = true := blt_iff.2 (by omega)
  have e8 : inB 0 r1.n = true := by simp [inB]; omega
  have e9 : Nat.ble (1 + (r1.n - 1)) r1.n = true := ble_iff.2 (by omega)
  have hleaf : (q (OS.mk L cp (mkg k c) (read0U u) (some (Row.mk (r1.n - 1) (fun j => (r1.f (1 + j))))) (some (Row.mk r2.n (fun j => (r2.f (0 + j))))) u.ov (IntKind.wrap .i64 (i + 1)))) = true := by
    rw [g6]
    refine hq _ ⟨w.ok, w.lat.trans hl, ?_, ?_, ?_, ?_, w.ov⟩ rfl rfl rfl rfl
    · show (read0U u).rx.n = _; rw [w.rx, hrx]; simp [rl]; omega
    · show (read0U u).tx.n = _; rw [w.tx, htx]; simp [rl]
    · intro j hj; show (read0U u).rx.b j = _
      simp only [rl] at hj
      rw [w2 j (by omega)]; exact hrb (1 + j) (by omega)
    · intro j hj; show (read0U u).tx.b j = _; rw [w1]; simpa [rf] using htb j (by simpa [rl] using hj)
  unfold roundSS
  refine condT g1 ?_
  refine condT g2 ?_
  refine condT g3 ?_
  refine condT g4 ?_
  refine condF k0 ?_
  refine condF k1 ?_
  refine condF k2 ?_
  refine condF k3 ?_
  refine condT k4 ?_
  refine condT (andT hu (notT hl)) ?_
  refine condT e1 ?_
  refine condT e8 ?_
  refine condT e7 ?_
  refine condF e5 ?_
  refine condF e6 ?_
  refine condT e1 ?_
  refine condT e2 ?_
  refine condT w.ok ?_
  refine condF e3 ?_
  refine condF e4 ?_
  refine condF (notF (beqB w.ov)) ?_
  refine condT (andT (bqS _) (andT e9 (bleZ _))) ?_
  exact hleaf

set_option maxRecDepth 100000 in
set_option maxHeartbeats 2000000 in
theorem roundSS_none {L cp : Nat} {k c : Nat → Int} {u : Us} {r1 r2 : Row} {i : Int} {q : OS → Bool} {kk : K} (hu : okU u = true) (hl : latch u = false) (hrx : u.rx.n = (rl (some r1) : Int)) (htx : u.tx.n = (rl (some r2) : Int)) (hrb : ∀ j, j < rl (some r1) → u.rx.b j = rf (some r1) j) (htb : ∀ j, j < rl (some r2) → u.tx.b j = rf (some r2) j) (h0 : 0 ≤ i) (hL : i < (L : Int)) (h2 : i < 200)
    (hq : ∀ o, InvO o → o.i = i + 1 → o.len = L → o.cap = cp → o.g = mkg k c → q o = true) (hk : kap k i = 4) (hn : u.rx.n = 0) : roundSS L cp k c u r1 r2 u.ov i q kk = true := by
  simp only [rl] at hrx htx hrb htb
  have m1 := okU_may hu
  obtain ⟨a1, a2, _⟩ := mayB_iff.1 m1.1
  obtain ⟨b1, b2, _⟩ := mayB_iff.1 m1.2
  have g1 := decide_eq_true hL
  have g2 := decide_eq_true h2
  have g3 : inB i L = true := by simp [inB, h0, hL]
  have g4 : Nat.blt i.toNat L = true := blt_iff.2 (by omega)
  have g5 : ((okU u) && (!(latch u))) = true := by rw [hu, hl]; rfl
  have g6 := wrap_next h0 h2
  have k0 : (kap k i == 0) = false := beqF (by omega)
  have k1 : (kap k i == 1) = false := beqF (by omega)
  have k2 : (kap k i == 2) = false := beqF (by omega)
  have k3 : (kap k i == 3) = false := beqF (by omega)
  have k4 : (kap k i == 4) = true := beqT hk
  obtain ⟨w, w1⟩ := read_none hn
  have e1 : decide (((r1.n : Nat) : Int) > 0) = false := decide_eq_false (by omega)
  have e6 : (((r1.n : Nat) : Int) == 0) = true := beqT (by omega)
  have e3 : (u.rx.n != ((r1.n : Nat) : Int)) = false := bneF (by rw [hrx])
  have e4 : (u.tx.n != ((r2.n : Nat) : Int)) = false := bneF (by rw [htx])
  have hleaf : (q (OS.mk L cp (mkg k c) (read0U u) (some (Row.mk r1.n (fun j => (r1.f (0 + j))))) (some (Row.mk r2.n (fun j => (r2.f (0 + j))))) u.ov (IntKind.wrap .i64 (i + 1)))) = true := by
    rw [g6]
    rw [w]
    refine hq _ ⟨hu, hl, ?_, ?_, ?_, ?_, rfl⟩ rfl rfl rfl rfl
    · simpa [rl] using hrx
    · simpa [rl] using htx
    · intro j hj; simpa [rf] using hrb j (by simpa [rl] using hj)
    · intro j hj; simpa [rf] using htb j (by simpa [rl] using hj)
  unfold roundSS
  refine condT g1 ?_
  refine condT g2 ?_
  refine condT g3 ?_
  refine condT g4 ?_
  refine condF k0 ?_
  refine condF k1 ?_
  refine condF k2 ?_
  refine condF k3 ?_
  refine condT k4 ?_
  refine condT (andT hu (notT hl)) ?_
  refine condF e1 ?_
  refine condT e6 ?_
  refine condF (bneF w1) ?_
  refine condF e1 ?_
  refine condT (by rw [w]; exact hu) ?_
  refine condF (by rw [w]; exact e3) ?_
  refine condF (by rw [w]; exact e4) ?_
  refine condF (notF (beqB (by rw [w]))) ?_
  refine condT (andT (bqS _) (andT (bleZ _) (bleZ _))) ?_
  exact hleaf

set_option maxRecDepth 100000 in
set_option maxHeartbeats 2000000 in
theorem roundSS_out {L cp : Nat} {k c : Nat → Int} {u : Us} {r1 r2 : Row} {i : Int} {q : OS → Bool} {kk : K} (hu : okU u = true) (hl : latch u = false) (hrx : u.rx.n = (rl (some r1) : Int)) (htx : u.tx.n = (rl (some r2) : Int)) (hrb : ∀ j, j < rl (some r1) → u.rx.b j = rf (some r1) j) (htb : ∀ j, j < rl (some r2) → u.tx.b j = rf (some r2) j) (h0 : 0 ≤ i) (hL : i < (L : Int)) (h2 : i < 200)
    (hq : ∀ o, InvO o → o.i = i + 1 → o.len = L → o.cap = cp → o.g = mkg k c → q o = true) (hk : kap k i ≠ 0 ∧ kap k i ≠ 1 ∧ kap k i ≠ 2 ∧ kap k i ≠ 3 ∧ kap k i ≠ 4) (hn : 0 < u.tx.n) (hw : u.wt = 3) : roundSS L cp k c u r1 r2 u.ov i q kk = true := by
  simp only [rl] at hrx htx hrb htb
  have m1 := okU_may hu
  obtain ⟨a1, a2, _⟩ := mayB_iff.1 m1.1
  obtain ⟨b1, b2, _⟩ := mayB_iff.1 m1.2
  have g1 := decide_eq_true hL
  have g2 := decide_eq_true h2
  have g3 : inB i L = true := by simp [inB, h0, hL]
  have g4 : Nat.blt i.toNat L = true := blt_iff.2 (by omega)
  have g5 : ((okU u) && (!(latch u))) = true := by rw [hu, hl]; rfl
  have g6 := wrap_next h0 h2
  have k0 : (kap k i == 0) = false := beqF (by omega)
  have k1 : (kap k i == 1) = false := beqF (by omega)
  have k2 : (kap k i == 2) = false := beqF (by omega)
  have k3 : (kap k i == 3) = false := beqF (by omega)
  have k4 : (kap k i == 4) = false := beqF (by omega)
  obtain ⟨w, w1, w4, w3, w2⟩ := tick_out hu hn hw
  have e2 : decide (1 ≤ ((r2.n : Nat) : Int)) = true := decide_eq_true (by omega)
  have e2b : decide (0 < ((r2.n : Nat) : Int)) = true := decide_eq_true (by omega)
  have e3 : ((tickU u).tx.n != (((r2.n - 1) : Nat) : Int)) = false := bneF (by rw [w.tx, htx]; omega)
  have e4 : ((tickU u).rx.n != ((r1.n : Nat) : Int)) = false := bneF (by rw [w.rx, hrx])
  have e5 : ((tickC u) != (r2.f 0)) = false := bneF (by rw [w3, htb 0 (by omega)]; rfl)
  have e6 : (((r2.n : Nat) : Int) == 0) = false := beqF (by omega)
  have e7 : Nat.blt 0 r2.n = true := blt_iff.2 (by omega)
  have e8 : inB 0 r2.n = true := by simp [inB]; omega
  have e9 : Nat.ble (1 + (r2.n - 1)) r2.n = true := ble_iff.2 (by omega)
  have e1 : (u.wt != 3) = false := bneF hw
  have hleaf : (q (OS.mk L cp (mkg k c) (tickU u) (some (Row.mk r1.n (fun j => (r1.f (0 + j))))) (some (Row.mk (r2.n - 1) (fun j => (r2.f (1 + j))))) u.ov (IntKind.wrap .i64 (i + 1)))) = true := by
    rw [g6]
    refine hq _ ⟨w.ok, w.lat.trans hl, ?_, ?_, ?_, ?_, w.ov⟩ rfl rfl rfl rfl
    · show (tickU u).rx.n = _; rw [w.rx, hrx]; simp [rl]
    · show (tickU u).tx.n = _; rw [w.tx, htx]; simp [rl]; omega
    · intro j hj; show (tickU u).rx.b j = _; rw [w1]; simpa [rf] using hrb j (by simpa [rl] using hj)
    · intro j hj; show (tickU u).tx.b j = _
      simp only [rl] at hj
      rw [w2 j (by omega)]; exact htb (1 + j) (by omega)
  unfold roundSS
  refine condT g1 ?_
  refine condT g2 ?_
  refine condT g3 ?_
  refine condT g4 ?_
  refine condF k0 ?_
  refine condF k1 ?_
  refine condF k2 ?_
  refine condF k3 ?_
  refine condF k4 ?_
  refine condT w4 ?_
  refine condF e6 ?_
  refine condT e8 ?_
  refine condT e7 ?_
  refine condF e5 ?_
  refine condF e1 ?_
  refine condT e2 ?_
  refine condT w.ok ?_
  refine condF e4 ?_
  refine condF e3 ?_
  refine condF (notF (beqB w.ov)) ?_
  refine condT (andT (bqS _) (andT (bleZ _) e9)) ?_
  exact hleaf

set_option maxRecDepth 100000 in
set_option maxHeartbeats 2000000 in
theorem roundSS_wait {L cp : Nat} {k c : Nat → Int} {u : Us} {r1 r2 : Row} {i : Int} {q : OS → Bool} {kk : K} (hu : okU u = true) (hl : latch u = false) (hrx : u.rx.n = (rl (some r1) : Int)) (htx : u.tx.n = (rl (some r2) : Int)) (hrb : ∀ j, j < rl (some r1) → u.rx.b j = rf (some r1) j) (htb : ∀ j, j < rl (some r2) → u.tx.b j = rf (some r2) j) (h0 : 0 ≤ i) (hL : i < (L : Int)) (h2 : i < 200)
    (hq : ∀ o, InvO o → o.i = i + 1 → o.len = L → o.cap = cp → o.g = mkg k c → q o = true) (hk : kap k i ≠ 0 ∧ kap k i ≠ 1 ∧ kap k i ≠ 2 ∧ kap k i ≠ 3 ∧ kap k i ≠ 4) (hn : 0 < u.tx.n) (hw : u.wt < 3) : roundSS L cp k c u r1 r2 u.ov i q kk = true := by
  simp only [rl] at hrx htx hrb htb
  have m1 := okU_may hu
  obtain ⟨a1, a2, _⟩ := mayB_iff.1 m1.1
  obtain ⟨b1, b2, _⟩ := mayB_iff.1 m1.2
  have g1 := decide_eq_true hL
  have g2 := decide_eq_true h2
  have g3 : inB i L = true := by simp [inB, h0, hL]
  have g4 : Nat.blt i.toNat L = true := blt_iff.2 (by omega)
  have g5 : ((okU u) && (!(latch u))) = true := by rw [hu, hl]; rfl
  have g6 := wrap_next h0 h2
  have k0 : (kap k i == 0) = false := beqF (by omega)
  have k1 : (kap k i == 1) = false := beqF (by omega)
  have k2 : (kap k i == 2) = false := beqF (by omega)
  have k3 : (kap k i == 3) = false := beqF (by omega)
  have k4 : (kap k i == 4) = false := beqF (by omega)
  obtain ⟨w, w1, w2, w4⟩ := tick_wait hu hn hw
  have e3 : ((tickU u).tx.n != ((r2.n : Nat) : Int)) = false := bneF (by rw [w.tx, htx])
  have e4 : ((tickU u).rx.n != ((r1.n : Nat) : Int)) = false := bneF (by rw [w.rx, hrx])
  have hleaf : (q (OS.mk L cp (mkg k c) (tickU u) (some (Row.mk r1.n (fun j => (r1.f (0 + j))))) (some (Row.mk r2.n (fun j => (r2.f (0 + j))))) u.ov (IntKind.wrap .i64 (i + 1)))) = true := by
    rw [g6]
    refine hq _ ⟨w.ok, w.lat.trans hl, ?_, ?_, ?_, ?_, w.ov⟩ rfl rfl rfl rfl
    · show (tickU u).rx.n = _; rw [w.rx, hrx]; simp [rl]
    · show (tickU u).tx.n = _; rw [w.tx, htx]; simp [rl]
    · intro j hj; show (tickU u).rx.b j = _; rw [w1]; simpa [rf] using hrb j (by simpa [rl] using hj)
    · intro j hj; show (tickU u).tx.b j = _; rw [w2]; simpa [rf] using htb j (by simpa [rl] using hj)
  unfold roundSS
  refine condT g1 ?_
  refine condT g2 ?_
  refine condT g3 ?_
  refine condT g4 ?_
  refine condF k0 ?_
  refine condF k1 ?_
  refine condF k2 ?_
  refine condF k3 ?_
  refine condF k4 ?_
  refine condF w4 ?_
  refine condT w.ok ?_
  refine condF e4 ?_
  refine condF e3 ?_
  refine condF (notF (beqB w.ov)) ?_
  refine condT (andT (bqS _) (andT (bleZ _) (bleZ _))) ?_
  exact hleaf

set_option maxRecDepth 100000 in
set_option maxHeartbeats 2000000 in
theorem roundSS_rest {L cp : Nat} {k c : Nat → Int} {u : Us} {r1 r2 : Row} {i : Int} {q : OS → Bool} {kk : K} (hu : okU u = true) (hl : latch u = false) (hrx : u.rx.n = (rl (some r1) : Int)) (htx : u.tx.n = (rl (some r2) : Int)) (hrb : ∀ j, j < rl (some r1) → u.rx.b j = rf (some r1) j) (htb : ∀ j, j < rl (some r2) → u.tx.b j = rf (some r2) j) (h0 : 0 ≤ i) (hL : i < (L : Int)) (h2 : i < 200)
    (hq : ∀ o, InvO o → o.i = i + 1 → o.len = L → o.cap = cp → o.g = mkg k c → q o = true) (hk : kap k i ≠ 0 ∧ kap k i ≠ 1 ∧ kap k i ≠ 2 ∧ kap k i ≠ 3 ∧ kap k i ≠ 4) (hn : u.tx.n = 0) : roundSS L cp k c u r1 r2 u.ov i q kk = true := by
  simp only [rl] at hrx htx hrb htb
  have m1 := okU_may hu
  obtain ⟨a1, a2, _⟩ := mayB_iff.1 m1.1
  obtain ⟨b1, b2, _⟩ := mayB_iff.1 m1.2
  have g1 := decide_eq_true hL
  have g2 := decide_eq_true h2
  have g3 : inB i L = true := by simp [inB, h0, hL]
  have g4 : Nat.blt i.toNat L = true := blt_iff.2 (by omega)
  have g5 : ((okU u) && (!(latch u))) = true := by rw [hu, hl]; rfl
  have g6 := wrap_next h0 h2
  have k0 : (kap k i == 0) = false := beqF (by omega)
  have k1 : (kap k i == 1) = false := beqF (by omega)
  have k2 : (kap k i == 2) = false := beqF (by omega)
  have k3 : (kap k i == 3) = false := beqF (by omega)
  have k4 : (kap k i == 4) = false := beqF (by omega)
  obtain ⟨w, w4⟩ := tick_none hu hn
  have e3 : (u.rx.n != ((r1.n : Nat) : Int)) = false := bneF (by rw [hrx])
  have e4 : (u.tx.n != ((r2.n : Nat) : Int)) = false := bneF (by rw [htx])
  have hleaf : (q (OS.mk L cp (mkg k c) (tickU u) (some (Row.mk r1.n (fun j => (r1.f (0 + j))))) (some (Row.mk r2.n (fun j => (r2.f (0 + j))))) u.ov (IntKind.wrap .i64 (i + 1)))) = true := by
    rw [g6]
    rw [w]
    refine hq _ ⟨hu, hl, ?_, ?_, ?_, ?_, rfl⟩ rfl rfl rfl rfl
    · simpa [rl] using hrx
    · simpa [rl] using htx
    · intro j hj; simpa [rf] using hrb j (by simpa [rl] using hj)
    · intro j hj; simpa [rf] using htb j (by simpa [rl] using hj)
  unfold roundSS
  refine condT g1 ?_
  refine condT g2 ?_
  refine condT g3 ?_
  refine condT g4 ?_
  refine condF k0 ?_
  refine condF k1 ?_
  refine condF k2 ?_
  refine condF k3 ?_
  refine condF k4 ?_
  refine condF w4 ?_
  refine condT (by rw [w]; exact hu) ?_
  refine condF (by rw [w]; exact e3) ?_
  refine condF (by rw [w]; exact e4) ?_
  refine condF (notF (beqB (by rw [w]))) ?_
  refine condT (andT (bqS _) (andT (bleZ _) (bleZ _))) ?_
  exact hleaf

theorem roundSS_true {L cp : Nat} {k c : Nat → Int} {u : Us} {r1 r2 : Row} {ov : Bool} {i : Int} {q : OS → Bool} {kk : K} (hI : InvO ⟨L, cp, mkg k c, u, (some r1), (some r2), ov, i⟩) (h0 : 0 ≤ i)
    (hk : kk (.exit 0) nilS = true) (hq : i < (L : Int) → i < 200 → ∀ o, InvO o → o.i = i + 1 → o.len = L → o.cap = cp → o.g = mkg k c → q o = true) : roundSS L cp k c u r1 r2 ov i q kk = true := by
  by_cases hL : i < (L : Int)
  rotate_left
  · unfold roundSS
    rw [decide_eq_false hL]
    exact hk
  by_cases h2 : i < 200
  rotate_left
  · unfold roundSS
    rw [decide_eq_true hL, decide_eq_false h2]
    exact hk
  obtain ⟨hu, hl, hrx, htx, hrb, htb, hov⟩ := hI
  replace hov : u.ov = ov := hov
  subst hov
  have m1 := okU_may hu
  obtain ⟨a1, a2, _⟩ := mayB_iff.1 m1.1
  obtain ⟨b1, b2, _⟩ := mayB_iff.1 m1.2
  have hw := (okU_iff.1 hu).2.2.2.2.2.1
  simp only at a1 a2 b1 b2 hw
  clear hk
  rcases kap_cases k i with hk | hk | hk | hk | hk | hk
  · rcases (show u.rx.n < 16 ∨ u.rx.n = 16 by omega) with hn | hn
    · exact roundSS_put0 hu hl hrx htx hrb htb h0 hL h2 (hq hL h2) hk hn
    · exact roundSS_full0 hu hl hrx htx hrb htb h0 hL h2 (hq hL h2) hk hn
  · rcases (show u.rx.n < 16 ∨ u.rx.n = 16 by omega) with hn | hn
    · exact roundSS_put1 hu hl hrx htx hrb htb h0 hL h2 (hq hL h2) hk hn
    · exact roundSS_full1 hu hl hrx htx hrb htb h0 hL h2 (hq hL h2) hk hn
  · rcases (show u.tx.n < 16 ∨ u.tx.n = 16 by omega) with hn | hn
    · exact roundSS_write2 hu hl hrx htx hrb htb h0 hL h2 (hq hL h2) hk hn
    · exact roundSS_whole2 hu hl hrx htx hrb htb h0 hL h2 (hq hL h2) hk hn
  · rcases (show u.tx.n < 16 ∨ u.tx.n = 16 by omega) with hn | hn
    · exact roundSS_write3 hu hl hrx htx hrb htb h0 hL h2 (hq hL h2) hk hn
    · exact roundSS_whole3 hu hl hrx htx hrb htb h0 hL h2 (hq hL h2) hk hn
  · rcases (show 0 < u.rx.n ∨ u.rx.n = 0 by omega) with hn | hn
    · exact roundSS_read hu hl hrx htx hrb htb h0 hL h2 (hq hL h2) hk hn
    · exact roundSS_none hu hl hrx htx hrb htb h0 hL h2 (hq hL h2) hk hn
  · rcases (show 0 < u.tx.n ∨ u.tx.n = 0 by omega) with hn | hn
    · rcases (show u.wt = 3 ∨ u.wt < 3 by omega) with hw | hw
      · exact roundSS_out hu hl hrx htx hrb htb h0 hL h2 (hq hL h2) hk hn hw
      · exact roundSS_wait hu hl hrx htx hrb htb h0 hL h2 (hq hL h2) hk hn hw
    · exact roundSS_rest hu hl hrx htx hrb htb h0 hL h2 (hq hL h2) hk hn

end Go.Proofs.Yteionboacdkfjaa.X
