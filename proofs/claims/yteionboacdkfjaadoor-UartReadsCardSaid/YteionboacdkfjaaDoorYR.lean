/-
  X, part R: loops by contracts of their own: a state may be told anew at a loop's head and at its end.
-/
import Derived.Test.YteionboacdkfjaaDoorYQ
namespace Go.Proofs.YteionboacdkfjaaDoor.X
set_option linter.unusedSectionVars false

/-- A loop's contract: in this state it comes to an end, of which the test holds. -/
abbrev LT := St → K → Bool

noncomputable def execL (P : Program) [Tb P] (Γ : FuncId → Option CT) (D : List Oper → St → (St → Bool) → Bool) (fuel : Nat) (Λ : Code → Option LT) : Code → St → K → Bool
  | .skip, σ, k => k .nrm σ
  | .label _, σ, k => k .nrm σ
  | .region _ ops false, σ, k => runOps P Γ ops.toList ops.toList σ (k .nrm)
  | .region _ ops true, σ, k => D ops.toList σ (k .nrm)
  | .seq a b, σ, k => execL P Γ D fuel Λ a σ fun e τ => match e with
    | .nrm => execL P Γ D fuel Λ b τ k
    | e => k e τ
  | .cond c a b, σ, k => match ev P σ.fr c with
    | some (.sc (.b x)) => cond x (execL P Γ D fuel Λ a σ k) (execL P Γ D fuel Λ b σ k)
    | _ => false
  | .block id c, σ, k => execL P Γ D fuel Λ c σ fun e τ => match e with
    | .exit i => cond (Nat.beq i id) (k .nrm τ) (k (.exit i) τ)
    | e => k e τ
  | .loop c, σ, k => match Λ c with
    | some F => F σ k
    | none => iter fuel (execL P Γ D fuel Λ c) σ k
  | .exit id, σ, k => k (.exit id) σ
  | .ret, σ, k => k .ret σ
  | _, _, _ => false

noncomputable def loopsOf : Code → List Code
  | .seq a b => loopsOf a ++ loopsOf b
  | .cond _ a b => loopsOf a ++ loopsOf b
  | .block _ c => loopsOf c
  | .loop c => c :: loopsOf c
  | _ => []

/-- The first region's number: by this a loop is known. -/
noncomputable def keyOf : Code → Nat
  | .region id _ _ => id
  | .seq a _ => keyOf a
  | .block _ c => keyOf c
  | .loop c => keyOf c
  | .cond _ a _ => keyOf a
  | _ => 0

/-- What a function found when it was called: the world, the cells that it may write, how many blocks are its caller's, and where these lie. -/
structure Bs where
  w : World
  F : Nat → Nat → Prop
  nt : Nat
  n : Nat
  p : Mu

structure InB (B : Bs) (μ : Mu) (A : Nat → Prop) (h : H) (w : World) : Prop where
  ext : Ext B.F B.w w
  foot : ∀ b o, foot μ h b o → B.F b o ∨ B.w.heap.size ≤ b
  ids : ∀ i, i < B.n → A i ∧ μ i = B.p i
  lo : h.lo = 0

def PostB (P : Program) [Tb P] (B : Bs) (k : K) (e : Exit) (a' : Act) (w' : World) : Prop :=
  ∃ x τ μ' A', e = Ex.out x ∧ k x τ = true ∧ τ.nt = B.nt ∧ Rel P μ' A' τ a' w' ∧ InB B μ' A' τ.h w'

def LoopOk (P : Program) [Tb P] (B : Bs) (c : Code) (F : LT) : Prop :=
  ∀ (μ : Mu) (A : Nat → Prop) (σ : St) (a : Act) (w : World) (k : K), Rel P μ A σ a w → InB B μ A σ.h w → σ.nt = B.nt → F σ k = true → LoopAt P c (PostB P B k) a w

/-- One state may be told as another one. -/
def Conv (P : Program) [Tb P] (n : Nat) (σ τ : St) : Prop :=
  τ.nt = σ.nt ∧ ∀ (B : Bs) (μ : Mu) (A : Nat → Prop) (a : Act) (w : World), B.n = n → Rel P μ A σ a w → InB B μ A σ.h w → ∃ μ' A', Rel P μ' A' τ a w ∧ InB B μ' A' τ.h w

section
variable {P : Program} [Tb P] {μ : Mu} {A : Nat → Prop} {h : H} {w : World} {σ : St} {a : Act} {B : Bs}

theorem InB.step (i : InB B μ A h w) {μ' : Mu} {A' : Nat → Prop} {h' : H} {w' : World} (l : Leads P μ A h w μ' A' h' w') : InB B μ' A' h' w' :=
  ⟨i.ext.trans l.step.ext i.foot, fun b o hf => (l.step.foot b o hf).elim (i.foot b o) (fun q => .inr (Nat.le_trans i.ext.size q)),
    fun j hj => ⟨l.step.sub j (i.ids j hj).1, (l.step.agree j (i.ids j hj).1).trans (i.ids j hj).2⟩, l.step.lo.trans i.lo⟩

theorem Conv.refl (n : Nat) (σ : St) : Conv P n σ σ := ⟨rfl, fun _ μ A _ _ _ hR hI => ⟨μ, A, hR, hI⟩⟩

/-- A state of which nothing is told. -/
theorem conv_nil (σ : St) : Conv P 0 σ ⟨.l, σ.nt, hN P⟩ :=
  ⟨rfl, fun B μ A a w hn hR hI => ⟨fun i => ⟨i, 0, 0⟩, fun i => i < nGlob P, ⟨hR.defers, hR.nt, fun t v h => by simp [T.get_l] at h, envN P w hR.env.gw hR.env.gs⟩,
    ⟨hI.ext, fun b o hf => (footN hf).elim, fun i hi => by rw [hn] at hi; omega, rfl⟩⟩⟩

theorem execL_ok {Γ : FuncId → Option CT} (hΓ : ∀ g F, Γ g = some F → CTok P g F) {D : List Oper → St → (St → Bool) → Bool} (hD : Dok P D) (fuel : Nat) (Λ : Code → Option LT) (B : Bs) :
    ∀ (c : Code) (hΛ : ∀ c' F, c' ∈ loopsOf c → Λ c' = some F → LoopOk P B c' F) {μ : Mu} {A : Nat → Prop} {σ : St} {a : Act} {w : World} {k : K} (hR : Rel P μ A σ a w) (hI : InB B μ A σ.h w) (hnt : σ.nt = B.nt) (hk : execL P Γ D fuel Λ c σ k = true), c.wp P (PostB P B k) a w := by
  have here : ∀ {μ : Mu} {A : Nat → Prop} {σ : St} {a : Act} {w : World} {k : K} (x : Ex), Rel P μ A σ a w → InB B μ A σ.h w → σ.nt = B.nt → k x σ = true → PostB P B k x.out a w := fun {μ A σ a w k} x hR hI hnt hk => ⟨x, σ, μ, A, rfl, hk, hnt, hR, hI⟩
  have after : ∀ {μ : Mu} {A : Nat → Prop} {σ : St} {w : World} {k : K} {a' : Act} {w' : World}, InB B μ A σ.h w → σ.nt = B.nt → Post P μ A σ w (k .nrm) a' w' → PostB P B k .normal a' w' := fun {μ A σ w k a' w'} hI hnt ⟨τ, μ', A', h1, h2, h3, h4⟩ => ⟨.nrm, τ, μ', A', rfl, h1, h2.trans hnt, h3, hI.step h4⟩
  intro c
  induction c with
  | skip => intro hΛ μ A σ a w k hR hI hnt hk; exact wp_skip (here .nrm hR hI hnt hk)
  | label l => intro hΛ μ A σ a w k hR hI hnt hk; exact wp_label (here .nrm hR hI hnt hk)
  | exit id => intro hΛ μ A σ a w k hR hI hnt hk; exact wp_exit (here (.exit id) hR hI hnt hk)
  | ret => intro hΛ μ A σ a w k hR hI hnt hk; exact wp_ret (here .ret hR hI hnt hk)
  | region id ops d =>
    intro hΛ μ A σ a w k hR hI hnt hk
    cases d with
    | false =>
      simp only [execL] at hk
      refine wp_region ?_
      have := runOps_ok (Q := PostB P B k) hΓ ops.toList 0 (by simp) hR hk (fun a' w' hp => after hI hnt hp)
      simpa using this
    | true =>
      simp only [execL] at hk
      exact wp_mono (hD id ops σ _ μ A a w hk hR) fun e a' w' ⟨he, hp⟩ => by rw [he]; exact after hI hnt hp
  | seq x y ihx ihy =>
    intro hΛ μ A σ a w k hR hI hnt hk
    simp only [execL] at hk
    refine wp_seq (wp_mono (ihx (fun c' F hm => hΛ c' F (by simp [loopsOf, hm])) hR hI hnt hk) ?_)
    rintro e a' w' ⟨ex, τ, μ', A', rfl, h1, h2, h3, h4⟩
    cases ex with
    | nrm => exact ihy (fun c' F hm => hΛ c' F (by simp [loopsOf, hm])) h3 h4 h2 h1
    | exit i => exact ⟨.exit i, τ, μ', A', rfl, h1, h2, h3, h4⟩
    | ret => exact ⟨.ret, τ, μ', A', rfl, h1, h2, h3, h4⟩
  | cond c x y ihx ihy =>
    intro hΛ μ A σ a w k hR hI hnt hk
    simp only [execL] at hk
    split at hk
    · rename_i t ht
      have hv := ev_ok hR ht
      simp only [VR, SR] at hv
      refine wp_cond hv ?_
      cases t with
      | true => exact ihx (fun c' F hm => hΛ c' F (by simp [loopsOf, hm])) hR hI hnt hk
      | false => exact ihy (fun c' F hm => hΛ c' F (by simp [loopsOf, hm])) hR hI hnt hk
    · cases hk
  | block id c ih =>
    intro hΛ μ A σ a w k hR hI hnt hk
    simp only [execL] at hk
    refine wp_block (wp_mono (ih (fun c' F hm => hΛ c' F (by simpa [loopsOf] using hm)) hR hI hnt hk) ?_)
    rintro e a' w' ⟨ex, τ, μ', A', rfl, h1, h2, h3, h4⟩
    cases ex with
    | nrm => exact ⟨.nrm, τ, μ', A', rfl, h1, h2, h3, h4⟩
    | exit i =>
      simp only [Bool.cond_eq_ite, beq_iff] at h1
      simp only [Ex.out, Exit.inBlock]
      split
      · rename_i e
        rw [if_pos e] at h1
        exact ⟨.nrm, τ, μ', A', rfl, h1, h2, h3, h4⟩
      · rename_i e
        rw [if_neg e] at h1
        exact ⟨.exit i, τ, μ', A', rfl, h1, h2, h3, h4⟩
    | ret => exact ⟨.ret, τ, μ', A', rfl, h1, h2, h3, h4⟩
  | loop c ih =>
    intro hΛ μ A σ a w k hR hI hnt hk
    simp only [execL] at hk
    refine LoopAt.wp ?_
    split at hk
    · rename_i F hF
      exact hΛ c F (by simp [loopsOf]) hF μ A σ a w k hR hI hnt hk
    have key : ∀ (n : Nat) {μ : Mu} {A : Nat → Prop} {σ : St} {a : Act} {w : World}, Rel P μ A σ a w → InB B μ A σ.h w → σ.nt = B.nt → iter n (execL P Γ D fuel Λ c) σ k = true → LoopAt P c (PostB P B k) a w := by
      intro n
      induction n with
      | zero => intro μ A σ a w hR hI hnt hk; cases hk
      | succ n ihn =>
        intro μ A σ a w hR hI hnt hk
        simp only [iter] at hk
        refine LoopAt.round (wp_mono (ih (fun c' F hm => hΛ c' F (by simp [loopsOf, hm])) hR hI hnt hk) ?_)
        rintro e a' w' ⟨ex, τ, μ', A', rfl, h1, h2, h3, h4⟩
        cases ex with
        | nrm => exact ihn h3 h4 h2 h1
        | exit i => exact ⟨.exit i, τ, μ', A', rfl, h1, h2, h3, h4⟩
        | ret => exact ⟨.ret, τ, μ', A', rfl, h1, h2, h3, h4⟩
    exact key fuel hR hI hnt hk
  | _ => intro hΛ μ A σ a w k hR hI hnt hk; simp [execL] at hk

/-- At a loop's head, behind a round: told anew; behind its end: told as the end is. -/
noncomputable def headK {O : Type} (proj : St → Option (Bool × O)) (fin : Ex → St → Option (Bool × St)) (q : O → Bool) (k : K) : K := fun e σ => match e with
  | .nrm => match proj σ with
    | some (c, o) => cond c (q o) false
    | none => false
  | e => match fin e σ with
    | some (c, τ) => cond c (k e τ) false
    | none => false

/-- A loop's contract by its invariant. -/
noncomputable def invLT {O : Type} (proj : St → Option (Bool × O)) (pre : O → Bool) (out : O → K → Bool) : LT := fun σ k => match proj σ with
  | some (c, o) => cond c (cond (pre o) (out o k) false) false
  | none => false

theorem loop_inv {Γ : FuncId → Option CT} (hΓ : ∀ g F, Γ g = some F → CTok P g F) {D : List Oper → St → (St → Bool) → Bool} (hD : Dok P D) (fuel : Nat) (Λ : Code → Option LT) (n : Nat) {c : Code}
    (hΛ : ∀ c' F, c' ∈ loopsOf c → Λ c' = some F → ∀ B : Bs, B.n = n → LoopOk P B c' F) {O : Type} {proj : St → Option (Bool × O)} {fin : Ex → St → Option (Bool × St)} {can : O → St} {pre : O → Bool} {inv : O → Prop} {meas : O → Nat} {out : O → K → Bool}
    (hpre : ∀ o, pre o = true → inv o) (hproj : ∀ σ o, proj σ = some (true, o) → inv o → Conv P n σ (can o)) (hfin : ∀ e σ τ, fin e σ = some (true, τ) → Conv P n σ τ)
    (hround : ∀ o k, inv o → out o k = true → ∀ q : O → Bool, (∀ o', inv o' → meas o' < meas o → out o' k = true → q o' = true) → execL P Γ D fuel Λ c (can o) (headK proj fin q k) = true)
    {B : Bs} (hB : B.n = n) : LoopOk P B c (invLT proj pre out) := by
  intro μ A σ a w k hR hI hnt hk
  unfold invLT at hk
  split at hk
  rotate_left
  · cases hk
  rename_i b o hp
  simp only [Bool.cond_eq_ite] at hk
  split at hk
  rotate_left
  · cases hk
  rename_i hb
  split at hk
  rotate_left
  · cases hk
  rename_i hpr
  subst hb
  obtain ⟨n1, n2⟩ := hproj σ o hp (hpre o hpr)
  obtain ⟨μ', A', hR', hI'⟩ := n2 B μ A a w hB hR hI
  refine LoopAt.inv (fun m a w => ∃ o μ A, inv o ∧ meas o = m ∧ Rel P μ A (can o) a w ∧ InB B μ A (can o).h w ∧ (can o).nt = B.nt ∧ out o k = true) ?_ (meas o) a w ⟨o, μ', A', hpre o hpr, rfl, hR', hI', n1.trans hnt, hk⟩
  rintro m a w ⟨o, μ, A, i1, rfl, i2, i3, i4, i5⟩
  open Classical in
  let q : O → Bool := fun o' => decide (inv o' ∧ meas o' < meas o ∧ out o' k = true)
  have hr := hround o k i1 i5 q (fun o' h1 h2 h3 => decide_eq_true ⟨h1, h2, h3⟩)
  refine wp_mono (execL_ok hΓ hD fuel Λ B c (fun c' F hm hF => hΛ c' F hm hF B hB) i2 i3 i4 hr) ?_
  rintro e a' w' ⟨ex, τ, μ', A', rfl, h1, h2, h3, h4⟩
  have others : ∀ ex : Ex, (match fin ex τ with
      | some (c, τ) => cond c (k ex τ) false
      | none => false) = true → PostB P B k ex.out a' w' := fun ex h1 => by
    split at h1
    · rename_i b τ' hf
      simp only [Bool.cond_eq_ite] at h1
      split at h1
      · rename_i hb
        subst hb
        obtain ⟨m1, m2⟩ := hfin ex τ τ' hf
        obtain ⟨μ'', A'', r1, r2⟩ := m2 B μ' A' a' w' hB h3 h4
        exact ⟨ex, τ', μ'', A'', rfl, h1, m1.trans h2, r1, r2⟩
      · cases h1
    · cases h1
  cases ex with
  | nrm =>
    simp only [headK] at h1
    split at h1
    rotate_left
    · cases h1
    rename_i b o' hp'
    simp only [Bool.cond_eq_ite] at h1
    split at h1
    rotate_left
    · cases h1
    rename_i hb
    subst hb
    obtain ⟨j1, j2, j3⟩ := of_decide_eq_true h1
    obtain ⟨m1, m2⟩ := hproj τ o' hp' j1
    obtain ⟨μ'', A'', r1, r2⟩ := m2 B μ' A' a' w' hB h3 h4
    exact ⟨meas o', j2, o', μ'', A'', j1, rfl, r1, r2, m1.trans h2, j3⟩
  | exit i => exact others (.exit i) h1
  | ret => exact others .ret h1

/-- A function by its body, its loops by their contracts. -/
noncomputable def bodyL (P : Program) [Tb P] (Γ : FuncId → Option CT) (D : List Oper → St → (St → Bool) → Bool) (fuel : Nat) (Λ : Code → Option LT) (f : FuncId) : CT := fun args h k =>
  match P.funcs[f]? with
  | none => false
  | some fn => cond (okFn fn && Nat.ble args.length fn.ntmps) (match fn.body with
    | none => false
    | some c => execL P Γ D fuel Λ c ⟨mkFr 0 args .l, fn.ntmps, h⟩ fun e σ => match e with
      | .exit _ => false
      | _ => match resC P σ fn.results.toList with
        | some (c, l) => cond c (k (tupV l) σ.h) false
        | none => false) false

/-- The loops' contracts are true. -/
def LoopsOk (P : Program) [Tb P] (f : FuncId) (n : Nat) (Λ : Code → Option LT) : Prop :=
  ∀ fn c, P.funcs[f]? = some fn → fn.body = some c → ∀ c' F, c' ∈ loopsOf c → Λ c' = some F → ∀ B : Bs, B.n = n → LoopOk P B c' F

theorem bodyL_calls {Γ : FuncId → Option CT} (hΓ : ∀ g F, Γ g = some F → CTok P g F) {D : List Oper → St → (St → Bool) → Bool} (hD : Dok P D) {fuel : Nat} {Λ : Code → Option LT} {f : FuncId} {n : Nat} (hΛ : LoopsOk P f n Λ) {args : List V} {vals : List Value} (hv : VRs μ A args vals) (hE : Env P μ A h w) (hlo : h.lo = 0) (hA : ∀ i, i < n → A i) {k : V → H → Bool}
    (hk : bodyL P Γ D fuel Λ f args h k = true) :
    (∃ fn, P.funcs[f]? = some fn ∧ fn.body.isSome = true ∧ (fn.name == "runtime.NumGoroutine") = false) ∧
    Calls P f vals.toArray w fun e w' => ∃ x v h' μ' A', e = .returned x ∧ k v h' = true ∧ VR μ' A' v x ∧ Env P μ' A' h' w' ∧ Ext (foot μ h) w w' ∧ (∀ b o, foot μ' h' b o → foot μ h b o ∨ w.heap.size ≤ b) ∧ (∀ i, i < n → A' i ∧ μ' i = μ i) := by
  unfold bodyL at hk
  split at hk
  · cases hk
  rename_i fn hfn
  simp only [Bool.cond_eq_ite, Bool.and_eq_true, ble_iff] at hk
  split at hk
  rotate_left
  · cases hk
  rename_i hok
  obtain ⟨hok, hlen⟩ := hok
  split at hk
  · cases hk
  rename_i c hc
  refine ⟨⟨fn, hfn, by rw [hc]; rfl, by simpa [okFn] using hok⟩, calls_of_wp hfn hc ?_⟩
  let B : Bs := ⟨w, foot μ h, fn.ntmps, n, μ⟩
  have hI : InB B μ A h w := ⟨.refl _ _, fun b o hf => .inl hf, fun i hi => ⟨hA i hi, rfl⟩, hlo⟩
  refine wp_mono (execL_ok hΓ hD fuel Λ B c (fun c' F hm hF => hΛ fn c hfn hc c' F hm hF B rfl) (entered hv hE hlen) hI rfl hk) ?_
  have fin : ∀ {τ : St} {μ' : Mu} {A' : Nat → Prop} {a' : Act} {w' : World}, (match resC P τ fn.results.toList with
        | some (c, l) => if c = true then k (tupV l) τ.h else false
        | none => false) = true → Rel P μ' A' τ a' w' → InB B μ' A' τ.h w' →
      a'.defers = [] ∧ ∃ v, (results fn a'.tmps).run P w' = .ok v w' ∧ ∃ x v' h' μ' A', Ending.returned v = .returned x ∧ k v' h' = true ∧ VR μ' A' v' x ∧ Env P μ' A' h' w' ∧ Ext (foot μ h) w w' ∧ (∀ b o, foot μ' h' b o → foot μ h b o ∨ w.heap.size ≤ b) ∧ (∀ i, i < n → A' i ∧ μ' i = μ i) := by
    intro τ μ' A' a' w' h1 hR hI'
    split at h1
    · rename_i c l hres
      split at h1
      · rename_i hc
        subst hc
        obtain ⟨x, x1, x2⟩ := results_ok hR hres
        exact ⟨hR.defers, x, x1, x, _, _, _, _, rfl, h1, x2, hR.env, hI'.ext, hI'.foot, hI'.ids⟩
      · cases h1
    · cases h1
  rintro e a' w' ⟨ex, τ, μ', A', rfl, h1, h2, h3, h4⟩
  cases ex with
  | nrm => exact fin h1 h3 h4
  | exit i => cases h1
  | ret => exact fin h1 h3 h4

theorem closedL_ok {Γ : FuncId → Option CT} (hΓ : ∀ g F, Γ g = some F → CTok P g F) {D : List Oper → St → (St → Bool) → Bool} (hD : Dok P D) {fuel : Nat} {Λ : Code → Option LT} {f : FuncId} {n : Nat} (hn : n ≤ nGlob P) (hΛ : LoopsOk P f n Λ) {dec : List V → Option (Bool × PV)}
    (hd : ∀ args c r, dec args = some (c, r) → c = true → flatVs args = true ∧ bodyL P Γ D fuel Λ f args (hN P) (fun u _ => subB r.val u) = true) : CTok P f (closedCT dec) := by
  intro args h k vals w μ A hv hE hk
  unfold closedCT at hk
  split at hk
  rotate_left
  · cases hk
  rename_i c r hdec
  simp only [Bool.cond_eq_ite] at hk
  split at hk
  rotate_left
  · cases hk
  rename_i hc
  rw [PV.run_val] at hk
  obtain ⟨h1, h2⟩ := hd args c r hdec hc
  obtain ⟨⟨fn, hfn, hb, hname⟩, hcalls⟩ := bodyL_calls hΓ hD hΛ (flatVs_VR (μ' := fun i => ⟨i, 0, 0⟩) (A' := fun i => i < nGlob P) _ _ h1 hv) (envN P w hE.gw hE.gs) rfl (fun i hi => Nat.lt_of_lt_of_le hi hn) h2
  intro o a next Q hnx
  have hrun : (callFunc f vals.toArray).run P w = .ok (.enter f vals.toArray) w := by
    have hb' : ¬ (fn.body = none) := fun e => by rw [e] at hb; cases hb
    have hn' : ¬ (fn.name = "runtime.NumGoroutine") := by simpa using hname
    simp [callFunc, hfn, hn', hb']
  rw [hrun, Oper.upon_enter]
  refine hcalls.mono fun e w' ⟨x, v, h', μ', A', g1, g2, g3, g4, g5, g6, g7⟩ => ?_
  subst g1
  have hs : Sub v r.val := subB_iff.1 g2
  have e : Ext (fun _ _ => False) w w' := g5.mono (fun _ _ hf => footN hf)
  exact hnx x w' ⟨r.val, h, μ, A, hk, hs _ _ _ g3 _ _, Leads.kept hE e⟩

end
end Go.Proofs.YteionboacdkfjaaDoor.X
