/-
  UART, part C: the document's fifo.
-/
import Derived.Test.YteionboacdkfjaaUB
namespace Go.Proofs.Yteionboacdkfjaa.X

/-- One fifo. -/
def oneF (r : Fi → Option (Bool × PV)) : List V → Option (Bool × PV)
  | [.ag c] => match decFi c with
    | some (f, []) => r f
    | _ => none
  | _ => none

theorem oneF_spec {r : Fi → Option (Bool × PV)} {args : List V} {x : Bool × PV} (h : oneF r args = some x) : ∃ f, args = [.ag (encF f)] ∧ r f = some x := by
  unfold oneF at h
  split at h
  · split at h
    · rename_i c f h1
      have := decFi_spec h1
      exact ⟨f, by rw [this]; simp, h⟩
    · cases h
  · cases h

def twoF (r : Fi → Int → Option (Bool × PV)) : List V → Option (Bool × PV)
  | [.ag c, .sc (.i k x)] => match decFi c with
    | some (f, []) => cond (ikEq k .u8) (r f x) none
    | _ => none
  | _ => none

theorem twoF_spec {r : Fi → Int → Option (Bool × PV)} {args : List V} {x : Bool × PV} (h : twoF r args = some x) : ∃ f b, args = [.ag (encF f), .sc (.i .u8 b)] ∧ r f b = some x := by
  unfold twoF at h
  split at h
  · split at h
    · rename_i f h1
      simp only [Bool.cond_eq_ite, ikEq_iff] at h
      split at h
      · rename_i hk
        subst hk
        have := decFi_spec h1
        exact ⟨f, _, by rw [this]; simp, h⟩
      · cases h
    · cases h
  · cases h

def putF (f : Fi) (c : Int) : Fi := ⟨fun j => cond (Nat.beq j f.n.toNat) c (f.b j), IntKind.i64.wrap (f.n + 1)⟩
def rtakeF (f : Fi) : Fi := ⟨fun j => cond (decide ((j : Int) + 1 < f.n)) (f.b (j + 1)) 0, IntKind.i64.wrap (f.n - 1)⟩

def rtakeD : List V → Option (Bool × PV) := oneF fun f =>
  some (decide (0 ≤ f.n) && decide (f.n ≤ 16), .v (.tu [.ag (encF (cond (f.n == 0) f (rtakeF f))), .sc (.i .u8 (cond (f.n == 0) 0 (f.b 0)))]))
def rputD : List V → Option (Bool × PV) := twoF fun f c =>
  some (decide (0 ≤ f.n), .v (.tu [.ag (encF (cond (decide (f.n > 15)) f (putF f c))), .sc (.b (cond (decide (f.n > 15)) false true))]))

def rtakeI (f : Fi) (q : V → Bool) : Nat → Nat → (Nat → Int) → Bool
  | 0, _, _ => false
  | k + 1, i, g => cond (decide ((i : Int) < f.n)) (cond (Nat.blt i 16) (rtakeI f q k (i + 1) (fun j => cond (Nat.beq j (i - 1)) (f.b i) (g j))) false)
    (let x := V.tu [.ag (encF ⟨g, IntKind.i64.wrap (f.n - 1)⟩), .sc (.i .u8 (f.b 0))]
     cond (q x) (q x) false)
def rtakeT (f : Fi) (q : V → Bool) : Bool :=
  cond (f.n == 0) (q (.tu [.ag (encF f), .sc (.i .u8 0)])) (rtakeI f q 18 1 (fun _ => 0))

set_option maxRecDepth 100000 in
theorem rtake_run (f : Fi) (q : V → Bool) : go ov2 18 4 17 [.ag (encF f)] q = rtakeT f q := by kernel_rfl

def rputT (f : Fi) (c : Int) (q : V → Bool) : Bool :=
  cond (decide (f.n > 15)) (q (.tu [.ag (encF f), .sc (.b false)])) (cond (inB f.n 16) (cond (Nat.blt f.n.toNat 16) (q (.tu [.ag (encF (putF f c)), .sc (.b true)])) false) false)
set_option maxRecDepth 100000 in
theorem rput_run (f : Fi) (c : Int) (q : V → Bool) : go ov2 18 4 19 [.ag (encF f), .sc (.i .u8 c)] q = rputT f c q := by kernel_rfl

theorem rtakeI_spec (f : Fi) (q : V → Bool) (h0 : 1 ≤ f.n) (h1 : f.n ≤ 16) : ∀ (k i : Nat) (g : Nat → Int), 17 ≤ i + k → 1 ≤ i → (i : Int) ≤ f.n → (∀ j, g j = cond (decide (j + 1 < i)) (f.b (j + 1)) 0) →
    rtakeI f q k i g = q (.tu [.ag (encF (rtakeF f)), .sc (.i .u8 (f.b 0))])
  | 0, i, g, h2, _, h3, _ => by omega
  | k + 1, i, g, h2, h5, h3, hg => by
    simp only [rtakeI]
    by_cases hlt : (i : Int) < f.n
    · rw [decide_eq_true hlt, cond_true, blt_iff.2 (show i < 16 by omega), cond_true]
      refine rtakeI_spec f q h0 h1 k (i + 1) _ (by omega) (by omega) (by omega) fun j => ?_
      rw [hg]
      simp only [Bool.cond_eq_ite, beq_iff, decide_eq_true_eq]
      by_cases e : j = i - 1
      · rw [if_pos e, if_pos (by omega), show j + 1 = i by omega]
      · rw [if_neg e]
        by_cases q : j + 1 < i
        · rw [if_pos q, if_pos (by omega)]
        · rw [if_neg q, if_neg (by omega)]
    · rw [decide_eq_false hlt, cond_false]
      have hgf : g = (rtakeF f).b := by
        funext j
        rw [hg]
        simp only [rtakeF, Bool.cond_eq_ite, decide_eq_true_eq]
        by_cases q : j + 1 < i
        · rw [if_pos q, if_pos (by omega)]
        · rw [if_neg q, if_neg (by omega)]
      subst hgf
      have key : ∀ b : Bool, cond b b false = b := by decide
      exact key (q (.tu [.ag (encF (rtakeF f)), .sc (.i .u8 (f.b 0))]))

theorem rtake_ok : CTok Try.prog 17 (closedCT rtakeD) := go_ok ov2_ok (fuel := 18) (n := 4) fun args c r h hc => by
  obtain ⟨f, rfl, h⟩ := oneF_spec h
  cases h
  simp only [Bool.and_eq_true, decide_eq_true_eq] at hc
  refine ⟨rfl, ?_⟩
  rw [rtake_run]
  by_cases h0 : f.n = 0
  · simp only [rtakeT, PV.val, beq_iff_eq.2 h0, cond_true]
    exact subB_flat rfl
  · simp only [rtakeT, PV.val, beq_eq_false_iff_ne.2 h0, cond_false]
    rw [rtakeI_spec f _ (by omega) hc.2 18 1 _ (by omega) (by omega) (by omega) (fun j => by simp)]
    exact subB_flat rfl

theorem rput_ok : CTok Try.prog 19 (closedCT rputD) := go_ok ov2_ok (fuel := 18) (n := 4) fun args c r h hc => by
  obtain ⟨f, b, rfl, h⟩ := twoF_spec h
  cases h
  simp only [decide_eq_true_eq] at hc
  refine ⟨rfl, ?_⟩
  rw [rput_run]
  by_cases h0 : f.n > 15
  · simp only [rputT, PV.val, decide_eq_true h0, cond_true]
    exact subB_flat rfl
  · simp only [rputT, PV.val, decide_eq_false h0, cond_false]
    rw [show inB f.n 16 = true from by simp [inB]; omega, show Nat.blt f.n.toNat 16 = true from blt_iff.2 (by omega)]
    exact subB_flat rfl

def ov3 : FuncId → Option CT := fun f => cond (Nat.beq f 17) (some (closedCT rtakeD)) (cond (Nat.beq f 19) (some (closedCT rputD)) (ov2 f))
theorem ov3_ok : ∀ g F, ov3 g = some F → CTok Try.prog g F := fun g F h => by
  simp only [ov3, Bool.cond_eq_ite, beq_iff] at h
  split at h
  · rename_i e; cases h; subst e; exact rtake_ok
  split at h
  · rename_i e; cases h; subst e; exact rput_ok
  exact ov2_ok g F h

end Go.Proofs.Yteionboacdkfjaa.X
