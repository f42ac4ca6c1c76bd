/-
  UART, part S: the loop of 'UartOrder' by its invariant; the whole function.
-/
import Derived.Test.YteionboacdkfjaaUO
import Derived.Test.YteionboacdkfjaaUP
import Derived.Test.YteionboacdkfjaaUQ
import Derived.Test.YteionboacdkfjaaXS
namespace Go.Proofs.Yteionboacdkfjaa.X

structure InvL (g0 : Nat → Nat → S) (o : OS) : Prop where
  i : InvO o
  pos : 0 ≤ o.i
  g : o.g = g0

open Classical in
noncomputable def propB (p : Prop) : Bool := decide p
theorem propB_iff {p : Prop} : propB p = true ↔ p := by simp [propB]

noncomputable def outO (_ : OS) (k : K) : Bool := k (.exit 0) nilS
noncomputable def ordLT (g0 : Nat → Nat → S) : LT := invLT projQ (fun o => propB (InvL g0 o)) outO
noncomputable def lamO (g0 : Nat → Nat → S) : Code → Option LT := fun c => cond (Nat.beq (keyOf c) 5) (some (ordLT g0)) none

theorem body5' : loopsOf orderC = [roundC] := by kernel_rfl
theorem body5 : ∀ fn c, Try.prog.funcs[5]? = some fn → fn.body = some c → loopsOf c = [roundC] := by
  intro fn c h1 h2
  have e : Try.prog.funcs[5]? = some Try.f5 := by kernel_rfl
  rw [e] at h1
  cases h1
  have e2 : Try.f5.body = some orderC := by kernel_rfl
  rw [e2] at h2
  cases h2
  exact body5'
theorem loops5 : loopsOf roundC = [] := by kernel_rfl

theorem conv_can {σ : St} {o : OS} (h : projQ σ = some (true, o)) (hf : ∀ i j s, j < 2 → i < o.len → o.g i j = s → flatS s = true) : Conv Try.prog 0 σ (can o) := by
  simp only [projQ, Bool.cond_eq_ite, beq_iff] at h
  split at h
  · rename_i hnt
    refine ⟨by rw [hnt]; rfl, fun B μ A a w hn hR hI => ?_⟩
    obtain ⟨μ', A', h1, h2⟩ := can_rel hR (projO_spec h rfl) hnt hf
    exact ⟨μ', A', h1, ⟨hI.ext, fun b o hf => hI.foot b o (h2 b o hf), fun i hi => by rw [hn] at hi; omega, rfl⟩⟩
  · cases h

theorem conv_fin {e : Ex} {σ τ : St} (h : finO e σ = some (true, τ)) : Conv Try.prog 0 σ τ := by
  cases e with
  | exit i =>
    simp only [finO, Option.some.injEq, Prod.mk.injEq, true_and] at h
    subst h
    exact conv_nil σ
  | nrm => cases h
  | ret => cases h

theorem roundX_true {k c : Nat → Int} {o : OS} {q : OS → Bool} {kk : K} (hI : InvL (mkg k c) o) (hk : kk (.exit 0) nilS = true) (hq : o.i < 200 → ∀ o', InvL (mkg k c) o' → o'.i = o.i + 1 → q o' = true) : roundX o q kk = true := by
  obtain ⟨L, cp, g, u, inn, out, ov, i⟩ := o
  obtain ⟨i1, i2, i3⟩ := hI
  simp only at i2 i3
  subst i3
  have hq' : i < (L : Int) → i < 200 → ∀ o', InvO o' → o'.i = i + 1 → o'.len = L → o'.cap = cp → o'.g = mkg k c → q o' = true := fun _ h2 o' a b _ _ e => hq h2 o' ⟨a, by rw [b]; omega, e⟩ b
  cases inn with
  | none =>
    cases out with
    | none => rw [roundNN_run L cp k c u ⟨0, fun _ => 0⟩ ⟨0, fun _ => 0⟩ ov i q kk]; exact roundNN_true i1 i2 hk hq'
    | some r2 => rw [roundNS_run L cp k c u ⟨0, fun _ => 0⟩ r2 ov i q kk]; exact roundNS_true i1 i2 hk hq'
  | some r1 =>
    cases out with
    | none => rw [roundSN_run L cp k c u r1 ⟨0, fun _ => 0⟩ ov i q kk]; exact roundSN_true i1 i2 hk hq'
    | some r2 => rw [roundSS_run L cp k c u r1 r2 ov i q kk]; exact roundSS_true i1 i2 hk hq'

theorem mkg_flat (k c : Nat → Int) (i j : Nat) : flatS (mkg k c i j) = true := by
  unfold mkg
  cases Nat.beq j 0 <;> rfl

theorem order_loops (k c : Nat → Int) : LoopsOk Try.prog 5 0 (lamO (mkg k c)) := by
  intro fn c0 h1 h2 c' F hm hF B hB
  rw [body5 fn c0 h1 h2, List.mem_singleton] at hm
  subst hm
  have hF' : lamO (mkg k c) roundC = some (ordLT (mkg k c)) := by kernel_rfl
  rw [hF'] at hF
  cases hF
  have hΓ := fun g F hg => run_ok (P := Try.prog) mixed ov5_ok 18 3 g F hg
  refine loop_inv hΓ (DR_ok mixed hΓ) 18 lam0 0 (fun c' F hm => by rw [loops5] at hm; cases hm) (can := can) (inv := InvL (mkg k c)) (fin := finO) (meas := fun o => (200 - o.i).toNat)
    (fun o h => propB_iff.1 h) (fun σ o h hi => conv_can h (fun i j s _ _ hs => by rw [← hs, hi.g]; exact mkg_flat k c i j)) (fun e σ τ h => conv_fin h) ?_ hB
  intro o kk hi ho q hq
  refine roundX_true hi ho fun h2 o' h3 h4 => hq o' h3 (by rw [h4]; have := hi.pos; omega) ho

noncomputable def orderH (L : Nat) (k c : Nat → Int) : H := ⟨T.set .l 0 ⟨[.rows L 2 (mkg k c)], false, true⟩, 1, 0⟩
noncomputable def orderX (L cp : Nat) (k c : Nat → Int) : Bool :=
  bodyL Try.prog (calls Try.prog ov5 (DR Try.prog) 18 3) (DR Try.prog (calls Try.prog ov5 (DR Try.prog) 18 3)) 18 (lamO (mkg k c)) 5 [.sc (.sl (some ⟨0, 0, none⟩) L (.k cp))] (orderH L k c) (fun v _ => vtrue v)

end Go.Proofs.Yteionboacdkfjaa.X
