/-
  UART: what is written and read by the program is what is written and read by the document.
-/
import Derived.Test.YteionboacdkfjaaDoorVD
namespace Go.Proofs.YteionboacdkfjaaDoor.X
set_option linter.unusedVariables false

def byte (x : Int) : Prop := 0 ≤ x ∧ x < 256
theorem byte_all {p : Int → Bool} (h : (List.range 256).all (fun n => p ((n : Nat) : Int)) = true) {x : Int} (hx : byte x) : p x = true := by
  have := List.all_eq_true.1 h x.toNat (List.mem_range.2 (by have := hx.1; have := hx.2; omega))
  rwa [Int.toNat_of_nonneg hx.1] at this
theorem b128 {x : Int} (hx : byte x) : ((andI .u8 x 128) != 0) = decide (x ≥ 128) := by
  simpa using byte_all (p := fun x => ((andI .u8 x 128) != 0) == decide (x ≥ 128)) (by kernel_rfl) hx
theorem b1 {x : Int} (hx : byte x) : ((andI .u8 x 1) != 0) = (Int.tmod x 2 == 1) := by
  simpa using byte_all (p := fun x => ((andI .u8 x 1) != 0) == (Int.tmod x 2 == 1)) (by kernel_rfl) hx
theorem b2 {x : Int} (hx : byte x) : ((andI .u8 x 2) != 0) = (Int.tmod (IntKind.wrap .u8 (Int.tdiv x 2)) 2 == 1) := by
  simpa using byte_all (p := fun x => ((andI .u8 x 2) != 0) == (Int.tmod (IntKind.wrap .u8 (Int.tdiv x 2)) 2 == 1)) (by kernel_rfl) hx
theorem b4 {x : Int} (hx : byte x) : ((andI .u8 x 4) != 0) = (Int.tmod (IntKind.wrap .u8 (Int.tdiv x 4)) 2 == 1) := by
  simpa using byte_all (p := fun x => ((andI .u8 x 4) != 0) == (Int.tmod (IntKind.wrap .u8 (Int.tdiv x 4)) 2 == 1)) (by kernel_rfl) hx
theorem b7 {x : Int} (hx : byte x) : andI .u8 x 7 = Int.tmod x 8 := by
  simpa using byte_all (p := fun x => andI .u8 x 7 == Int.tmod x 8) (by kernel_rfl) hx
theorem b31 {x : Int} (hx : byte x) : andI .u8 x 31 = Int.tmod x 32 := by
  simpa using byte_all (p := fun x => andI .u8 x 31 == Int.tmod x 32) (by kernel_rfl) hx

structure RU (u : Us) : Prop where
  ier : byte u.ier
  lcr : byte u.lcr
  scr : byte u.scr
  mcr : byte u.mcr

theorem allN_of {f : Nat → Bool} : ∀ n, (∀ i, i < n → f i = true) → allN f n = true
  | 0, _ => rfl
  | n + 1, h => by
    simp only [allN, Bool.and_eq_true]
    exact ⟨allN_of n fun i hi => h i (by omega), h n (by omega)⟩
theorem allN_self (f : Nat → Int) (n : Nat) : allN (fun z => f z == f z) n = true := allN_of n fun i _ => by simp
theorem eqU_self (u : Us) : eqU u u = true := by
  unfold eqU
  rw [allN_self, allN_self]
  simp

theorem zf_at {b : Nat → Int} : ∀ (k i j : Nat), zf b k i = true → i ≤ j → j < i + k → b j = 0
  | 0, i, j, _, h1, h2 => by omega
  | k + 1, i, j, h, h1, h2 => by
    rw [zf_succ, Bool.and_eq_true] at h
    by_cases hij : i = j
    · subst hij; simpa using h.1
    · exact zf_at k (i + 1) j h.2 (by omega) (by omega)

structure OkF (f : Fi) : Prop where
  lo : 0 ≤ f.n
  hi : f.n ≤ 16
  z : ∀ j, f.n.toNat ≤ j → j < 16 → f.b j = 0
theorem mayB_spec {f : Fi} (h : mayB f = true) : OkF f := by
  simp only [mayB, Bool.and_eq_true, decide_eq_true_eq] at h
  exact ⟨h.1, h.2.1, fun j h1 h2 => zf_at _ _ j h.2.2 h1 (by have := h.1; have := h.2.1; omega)⟩
theorem okU_spec {u : Us} (h : okU u = true) : OkF u.rx ∧ OkF u.tx := by
  simp only [okU, Bool.and_eq_true] at h
  exact ⟨mayB_spec h.1, mayB_spec h.2.1⟩

def vtrue : V → Bool := fun v => match v with
  | .sc (.b b) => b
  | _ => false

/-- What a write comes to, and that both say so. -/
theorem writes_same {u : Us} (hu : RU u) {at_ v : Int} (ha : 0 ≤ at_) (hv : byte v) :
    (wrP u at_ v).ok = true ∧ (rwrP u at_ v).ok = true ∧ eqU (wrV u at_ v).1 (rwrV u at_ v).1 = true ∧ (wrV u at_ v).2 = (rwrV u at_ v).2 := by
  suffices h : (wrP u at_ v).ok = true ∧ (rwrP u at_ v).ok = true ∧ wrV u at_ v = rwrV u at_ v by
    exact ⟨h.1, h.2.1, by rw [h.2.2]; exact eqU_self _, by rw [h.2.2]⟩
  unfold wrV rwrV wrP rwrP
  simp only [b128 hu.lcr, b2 hv, b4 hv, b7 hv, b31 hv]
  cases hok : okU u with
  | false => exact ⟨rfl, rfl, rfl⟩
  | true =>
    obtain ⟨hr, ht⟩ := okU_spec hok
    simp only [PT.ok, PT.val, cond_true, bne_self_eq_false, cond_false]
    by_cases h8 : at_ > 7
    · have e8 : ∀ k : Int, k ≤ 7 → (at_ == k) = false := fun k hk => by rw [beq_eq_false_iff_ne]; omega
      simp only [h8, decide_true, cond_true, e8 0 (by omega), e8 1 (by omega), e8 2 (by omega), e8 3 (by omega), e8 4 (by omega), e8 5 (by omega), e8 6 (by omega), e8 7 (by omega), cond_false]
      exact ⟨trivial, trivial, trivial⟩
    · simp only [h8, decide_false, cond_false]
      have : at_ = 0 ∨ at_ = 1 ∨ at_ = 2 ∨ at_ = 3 ∨ at_ = 4 ∨ at_ = 5 ∨ at_ = 6 ∨ at_ = 7 := by omega
      rcases this with rfl | rfl | rfl | rfl | rfl | rfl | rfl | rfl
      · show cond (decide (u.lcr ≥ 128)) true (cond (u.tx.n == 16) true (cond (inB u.tx.n 16) (cond (Nat.blt u.tx.n.toNat 16) true false) false)) = true ∧ cond (decide (u.lcr ≥ 128)) true (cond (decide (0 ≤ u.tx.n)) true false) = true ∧ _
        have h0 := ht.lo
        have h1 := ht.hi
        refine ⟨?_, ?_, ?_⟩
        · by_cases hl : u.lcr ≥ 128
          · simp [hl]
          · by_cases hn : u.tx.n = 16
            · simp [hn]
            · have : inB u.tx.n 16 = true := by simp [inB]; omega
              have h3 : Nat.blt u.tx.n.toNat 16 = true := blt_iff.2 (by omega)
              simp [hl, hn, this, h3]
        · simp [h0]
        · by_cases hl : u.lcr ≥ 128
          · simp only [hl, decide_true, cond_true]; rfl
          · by_cases hn : u.tx.n = 16
            · have e1 : decide (u.lcr ≥ 128) = false := decide_eq_false hl
              have e2 : (u.tx.n == 16) = true := by simp [hn]
              have e3 : decide (0 ≤ u.tx.n) = true := decide_eq_true h0
              have e4 : decide (u.tx.n > 15) = true := decide_eq_true (by omega)
              rw [e1, e2, e3, e4]
              rfl
            · have e1 : decide (u.lcr ≥ 128) = false := decide_eq_false hl
              have e2 : (u.tx.n == 16) = false := by simp [hn]
              have e3 : decide (0 ≤ u.tx.n) = true := decide_eq_true h0
              have e4 : decide (u.tx.n > 15) = false := decide_eq_false (by omega)
              have e5 : inB u.tx.n 16 = true := by simp [inB]; omega
              have e6 : Nat.blt u.tx.n.toNat 16 = true := blt_iff.2 (by omega)
              rw [e1, e2, e3, e4, e5, e6]
              rfl
      · cases decide (u.lcr ≥ 128) <;> exact ⟨rfl, rfl, rfl⟩
      · cases (Int.tmod (IntKind.wrap .u8 (Int.tdiv v 2)) 2 == 1) <;> cases (Int.tmod (IntKind.wrap .u8 (Int.tdiv v 4)) 2 == 1) <;> exact ⟨rfl, rfl, rfl⟩
      · exact ⟨rfl, rfl, rfl⟩
      · exact ⟨rfl, rfl, rfl⟩
      · exact ⟨rfl, rfl, rfl⟩
      · exact ⟨rfl, rfl, rfl⟩
      · exact ⟨rfl, rfl, rfl⟩

theorem writes_true {u : Us} (hu : RU u) {at_ v : Int} (ha : 0 ≤ at_) (hv : byte v) : goS so2 ov5 18 5 3 (dUAV.enc (u, at_, v)) vtrue = true := by
  obtain ⟨h1, h2, h3, h4⟩ := writes_same hu ha hv
  rw [writes_run, h1, h2, h3, h4]
  cases h : (rwrV u at_ v).2 == 0 with
  | true =>
    have : (rwrV u at_ v).2 = 0 := by simpa using h
    rw [this]
    rfl
  | false =>
    simp only [cond_true, cond_false, beq_self_eq_true]
    rfl


/-- Whether it asks, and the document's number for it. -/
theorem rask_two {u : Us} (hu : RU u) : (raskP u).ok = true ∧ (okU u = true → (askP u).ok = true ∧ (askP u).val false = ((raskP u).val 0 != 1)) := by
  unfold raskP askP
  simp only [b1 hu.ier, b2 hu.ier, b4 hu.ier, PT.ok, PT.val]
  generalize (Int.tmod (IntKind.wrap .u8 (Int.tdiv u.ier 4)) 2 == 1) = p4
  generalize (Int.tmod u.ier 2 == 1) = p1
  generalize (Int.tmod (IntKind.wrap .u8 (Int.tdiv u.ier 2)) 2 == 1) = p2
  generalize decide (u.rx.n > 0) = pr
  generalize (u.tx.n == 0) = pt
  generalize u.ov = po
  refine ⟨?_, fun hok => ?_⟩
  · revert p4 p1 p2 pr pt po; decide
  · rw [hok]; revert p4 p1 p2 pr pt po; decide
theorem ask_bad {u : Us} (h : okU u = false) : (askP u).ok = true ∧ (askP u).val false = false := by
  unfold askP
  simp only [PT.ok, PT.val, h]
  exact ⟨rfl, rfl⟩

/-- Both read so, and answer alike. -/
def Same (a b : PT (Us × Int × Int)) : Prop := a.ok = true ∧ b.ok = true ∧ eqU (a.val (u0, 0, 0)).1 (b.val (u0, 0, 0)).1 = true ∧ (a.val (u0, 0, 0)).2.1 = (b.val (u0, 0, 0)).2.1 ∧ (a.val (u0, 0, 0)).2.2 = (b.val (u0, 0, 0)).2.2
theorem same {a b : PT (Us × Int × Int)} (h1 : a.ok = true) (h2 : b.ok = true) (h3 : a.val (u0, 0, 0) = b.val (u0, 0, 0)) : Same a b := ⟨h1, h2, by rw [h3]; exact eqU_self _, by rw [h3], by rw [h3]⟩
theorem eqU_rx (u : Us) {f g : Fi} (hb : ∀ i, i < 16 → f.b i = g.b i) (hn : f.n = g.n) : eqU { u with rx := f } { u with rx := g } = true := by
  unfold eqU
  show (allN (fun z => f.b z == g.b z) 16 && ((f.n == g.n) && (allN (fun z => u.tx.b z == u.tx.b z) 16 && _))) = true
  rw [allN_of 16 (f := fun z => f.b z == g.b z) (fun i hi => by rw [hb i hi]; exact beq_self_eq_true _), hn, allN_self]
  simp
theorem reads_bad {u : Us} (hok : okU u = false) (at_ : Int) : Same (rdP u at_) (rrdP u at_) := by
  refine same ?_ ?_ ?_
  · unfold rdP; simp only [PT.ok, hok]; rfl
  · unfold rrdP; simp only [PT.ok, hok]; rfl
  · unfold rdP rrdP; simp only [PT.val, hok]; rfl
theorem reads_off {u : Us} (hu : RU u) (hok : okU u = true) {at_ : Int} (h8 : at_ > 7) : Same (rdP u at_) (rrdP u at_) := by
  have hq := (rask_two hu).1
  have e8 : ∀ k : Int, k ≤ 7 → (at_ == k) = false := fun k hk => by rw [beq_eq_false_iff_ne]; omega
  refine same ?_ ?_ ?_
  · unfold rdP; simp only [PT.ok, hok, e8 0 (by omega), e8 1 (by omega), e8 2 (by omega), e8 3 (by omega), e8 4 (by omega), e8 5 (by omega), e8 6 (by omega), e8 7 (by omega), cond_true, cond_false]
  · unfold rrdP rrest rtail rlast; simp only [PT.ok, hok, hq, h8, e8 0 (by omega), e8 5 (by omega), decide_true, cond_true, cond_false]
    cases decide (u.lcr ≥ 128) <;> rfl
  · unfold rdP rrdP rrest rtail rlast; simp only [PT.val, hok, hq, h8, e8 0 (by omega), e8 1 (by omega), e8 2 (by omega), e8 3 (by omega), e8 4 (by omega), e8 5 (by omega), e8 6 (by omega), e8 7 (by omega), decide_true, cond_true, cond_false]
    cases decide (u.lcr ≥ 128) <;> rfl
theorem rrd_tail {u : Us} (hu : RU u) (hok : okU u = true) (k : Nat) (hk : k < 8) (h0 : (k : Int) ≠ 0 ∨ u.lcr ≥ 128) (h5 : (k : Int) ≠ 5) :
    (rrdP u k).ok = true ∧ (rrdP u k).val (u0, 0, 0) = (u, nthI k 0 (rvals u (cond (decide (u.lcr ≥ 128)) u.dlm u.ier)), 0) := by
  have hq := (rask_two hu).1
  have e1 : decide ((k : Int) > 7) = false := decide_eq_false (by omega)
  have e2 : inB (k : Int) 8 = true := by simp [inB]; omega
  have e3 : Nat.blt k 8 = true := blt_iff.2 hk
  have e5 : ((k : Int) == 5) = false := by rw [beq_eq_false_iff_ne]; exact h5
  have e0 : ((k : Int) == 0) = true → decide (u.lcr ≥ 128) = true := fun h => decide_eq_true (by
    rcases h0 with h0 | h0
    · exact absurd (by simpa using h) h0
    · exact h0)
  unfold rrdP rrest rtail rlast
  simp only [PT.ok, PT.val, hok, hq, e1, e2, e3, e5, cond_true, cond_false, Int.toNat_natCast]
  cases h : ((k : Int) == 0) with
  | true => rw [e0 h]; exact ⟨rfl, rfl⟩
  | false => cases decide (u.lcr ≥ 128) <;> exact ⟨rfl, rfl⟩
theorem reads_0 {u : Us} (hu : RU u) (hok : okU u = true) : Same (rdP u 0) (rrdP u 0) := by
  obtain ⟨hr, ht⟩ := okU_spec hok
  by_cases hl : u.lcr ≥ 128
  · have := rrd_tail hu hok 0 (by omega) (Or.inr hl) (by decide)
    have e1 : decide (u.lcr ≥ 128) = true := decide_eq_true hl
    refine same ?_ this.1 ?_
    · unfold rdP; simp only [PT.ok, hok, b128 hu.lcr, e1]; rfl
    · refine Eq.trans ?_ this.2.symm
      unfold rdP; simp only [PT.val, hok, b128 hu.lcr, e1]; rfl
  · have e1 : decide (u.lcr ≥ 128) = false := decide_eq_false hl
    have e2 : decide (0 ≤ u.rx.n) = true := decide_eq_true hr.lo
    have e3 : decide (u.rx.n ≤ 16) = true := decide_eq_true hr.hi
    have w1 : (rrdP u 0).ok = true ∧ (rrdP u 0).val (u0, 0, 0) = ({ u with rx := cond (u.rx.n == 0) u.rx (rtakeF u.rx) }, cond (u.rx.n == 0) 0 (u.rx.b 0), 0) := by
      unfold rrdP; simp only [PT.ok, PT.val, hok, e1, e2, e3]; exact ⟨rfl, rfl⟩
    have w2 : (rdP u 0).ok = true ∧ (rdP u 0).val (u0, 0, 0) = cond (u.rx.n == 0) (u, 0, 0) ({ u with rx := (Fi.mk (fun z0 => (cond (Nat.beq z0 15) 0 (cond (Nat.blt z0 15) (u.rx.b (1 + (z0 - 0))) (u.rx.b z0)))) (IntKind.wrap .i64 (u.rx.n - 1))) }, (u.rx.b 0), 0) := by
      unfold rdP; simp only [PT.ok, PT.val, hok, b128 hu.lcr, e1]
      cases (u.rx.n == 0) <;> exact ⟨rfl, rfl⟩
    refine ⟨w2.1, w1.1, ?_⟩
    rw [w1.2, w2.2]
    cases hn : (u.rx.n == 0) with
    | true => exact ⟨eqU_self _, rfl, rfl⟩
    | false =>
      have hn' : u.rx.n ≠ 0 := by simpa using hn
      refine ⟨eqU_rx u (fun i hi => ?_) rfl, rfl, rfl⟩
      have h0 := hr.lo
      have h1 := hr.hi
      show cond (Nat.beq i 15) 0 (cond (Nat.blt i 15) (u.rx.b (1 + (i - 0))) (u.rx.b i)) = cond (decide ((i : Int) + 1 < u.rx.n)) (u.rx.b (i + 1)) 0
      simp only [Bool.cond_eq_ite, beq_iff, blt_iff, decide_eq_true_eq]
      by_cases c1 : i = 15
      · rw [if_pos c1, if_neg (by omega)]
      · rw [if_neg c1, if_pos (by omega), show 1 + (i - 0) = i + 1 by omega]
        by_cases c2 : (i : Int) + 1 < u.rx.n
        · rw [if_pos c2]
        · rw [if_neg c2]
          exact hr.z (i + 1) (by omega) (by omega)
theorem reads_2 {u : Us} (hu : RU u) (hok : okU u = true) : Same (rdP u 2) (rrdP u 2) := by
  have := rrd_tail hu hok 2 (by omega) (Or.inl (by decide)) (by decide)
  have key : (rdP u 2).ok = true ∧ (rdP u 2).val (u0, 0, 0) = (u, IntKind.wrap .u8 (192 + (raskP u).val 0), 0) := by
    unfold rdP raskP
    simp only [PT.ok, PT.val, hok, b1 hu.ier, b2 hu.ier, b4 hu.ier]
    cases (Int.tmod (IntKind.wrap .u8 (Int.tdiv u.ier 4)) 2 == 1) <;> cases (Int.tmod u.ier 2 == 1) <;> cases (Int.tmod (IntKind.wrap .u8 (Int.tdiv u.ier 2)) 2 == 1) <;> cases decide (u.rx.n > 0) <;> cases (u.tx.n == 0) <;> cases u.ov <;> exact ⟨rfl, rfl⟩
  exact same key.1 this.1 (key.2.trans this.2.symm)
theorem reads_5 {u : Us} (hok : okU u = true) : Same (rdP u 5) (rrdP u 5) := by
  have key : (rdP u 5).ok = true ∧ (rrdP u 5).ok = true ∧ (rdP u 5).val (u0, 0, 0) = (rrdP u 5).val (u0, 0, 0) := by
    unfold rdP rrdP rrest rline; simp only [PT.ok, PT.val, hok]
    cases decide (u.rx.n > 0) <;> cases (u.tx.n == 0) <;> cases u.ov <;> exact ⟨rfl, rfl, rfl⟩
  exact same key.1 key.2.1 key.2.2
theorem reads_k {u : Us} (hu : RU u) (hok : okU u = true) : Same (rdP u 1) (rrdP u 1) ∧ Same (rdP u 3) (rrdP u 3) ∧ Same (rdP u 4) (rrdP u 4) ∧ Same (rdP u 6) (rrdP u 6) ∧ Same (rdP u 7) (rrdP u 7) := by
  refine ⟨?_, ?_, ?_, ?_, ?_⟩
  · have := rrd_tail hu hok 1 (by omega) (Or.inl (by decide)) (by decide)
    refine same ?_ this.1 ?_
    · unfold rdP; simp only [PT.ok, hok, b128 hu.lcr]; cases decide (u.lcr ≥ 128) <;> rfl
    · refine Eq.trans ?_ this.2.symm
      unfold rdP; simp only [PT.val, hok, b128 hu.lcr]; cases decide (u.lcr ≥ 128) <;> rfl
  · have := rrd_tail hu hok 3 (by omega) (Or.inl (by decide)) (by decide)
    refine same ?_ this.1 ?_
    · unfold rdP; simp only [PT.ok, hok]; rfl
    · refine Eq.trans ?_ this.2.symm
      unfold rdP; simp only [PT.val, hok]; rfl
  · have := rrd_tail hu hok 4 (by omega) (Or.inl (by decide)) (by decide)
    refine same ?_ this.1 ?_
    · unfold rdP; simp only [PT.ok, hok]; rfl
    · refine Eq.trans ?_ this.2.symm
      unfold rdP; simp only [PT.val, hok]; rfl
  · have := rrd_tail hu hok 6 (by omega) (Or.inl (by decide)) (by decide)
    refine same ?_ this.1 ?_
    · unfold rdP; simp only [PT.ok, hok]; rfl
    · refine Eq.trans ?_ this.2.symm
      unfold rdP; simp only [PT.val, hok]; rfl
  · have := rrd_tail hu hok 7 (by omega) (Or.inl (by decide)) (by decide)
    refine same ?_ this.1 ?_
    · unfold rdP; simp only [PT.ok, hok]; rfl
    · refine Eq.trans ?_ this.2.symm
      unfold rdP; simp only [PT.val, hok]; rfl
theorem reads_same {u : Us} (hu : RU u) {at_ : Int} (ha : 0 ≤ at_) : Same (rdP u at_) (rrdP u at_) := by
  cases hok : okU u with
  | false => exact reads_bad hok at_
  | true =>
    by_cases h8 : at_ > 7
    · exact reads_off hu hok h8
    · have : at_ = 0 ∨ at_ = 1 ∨ at_ = 2 ∨ at_ = 3 ∨ at_ = 4 ∨ at_ = 5 ∨ at_ = 6 ∨ at_ = 7 := by omega
      obtain ⟨k1, k3, k4, k6, k7⟩ := reads_k hu hok
      rcases this with rfl | rfl | rfl | rfl | rfl | rfl | rfl | rfl
      · exact reads_0 hu hok
      · exact k1
      · exact reads_2 hu hok
      · exact k3
      · exact k4
      · exact reads_5 hok
      · exact k6
      · exact k7

theorem reads_true {u : Us} (hu : RU u) {at_ : Int} (ha : 0 ≤ at_) : goS so2 ov5 18 5 4 (dUA.enc (u, at_)) vtrue = true := by
  obtain ⟨h1, h2, h3, h4, h5⟩ := reads_same hu ha
  replace h3 : eqU (rdV u at_).1 (rrdV u at_).1 = true := h3
  replace h4 : (rdV u at_).2.1 = (rrdV u at_).2.1 := h4
  replace h5 : (rdV u at_).2.2 = (rrdV u at_).2.2 := h5
  obtain ⟨k1, k2⟩ := rask_two hu
  have hT : ∀ e r, e = (rrdV u at_).2.2 → (askP u).ok = true → (askP u).val false = r → readsT u at_ vtrue e r = true := fun e r he ho hr => by
    unfold readsT asksT
    rw [h3, h4, he, ho, hr]
    simp only [cond_true, beq_self_eq_true]
    cases okU u <;> rfl
  have hS : ∀ e, e = (rrdV u at_).2.2 → readsS u at_ vtrue e = true := fun e he => by
    unfold readsS
    rw [h2, k1]
    cases hok : okU u with
    | true =>
      obtain ⟨a1, a2⟩ := k2 hok
      exact hT _ _ he a1 a2
    | false =>
      obtain ⟨a1, a2⟩ := ask_bad hok
      exact hT _ _ he a1 a2
  rw [reads_run, h1]
  cases h : (rdV u at_).2.2 == 0 with
  | true => exact hS 0 (by rw [← h5]; exact (by simpa using h : (rdV u at_).2.2 = 0).symm)
  | false => exact hS _ h5

end Go.Proofs.YteionboacdkfjaaDoor.X
