/-
  X, part M: control and bodies: a function's contract by its body.
-/
import Derived.Test.YteionboacdkfjaaDoorYL
namespace Go.Proofs.YteionboacdkfjaaDoor.X
set_option linter.unusedSectionVars false

def Ex.out : Ex → Exit
  | .nrm => .normal
  | .exit i => .exit i
  | .ret => .ret

def PostK (P : Program) [Tb P] (μ : Mu) (A : Nat → Prop) (σ : St) (w : World) (k : K) (e : Exit) (a' : Act) (w' : World) : Prop :=
  ∃ x : Ex, e = x.out ∧ Post P μ A σ w (k x) a' w'

/-- A runner of regions whose order is drawn says what the machine does. -/
def Dok (P : Program) [Tb P] (D : List Oper → St → (St → Bool) → Bool) : Prop :=
  ∀ (id : Nat) (ops : Array Oper) (σ : St) (k : St → Bool) (μ : Mu) (A : Nat → Prop) (a : Act) (w : World), D ops.toList σ k = true → Rel P μ A σ a w →
    (Code.region id ops true).wp P (fun e a' w' => e = .normal ∧ Post P μ A σ w k a' w') a w

/-- A loop, standing at the head of a round. -/
def LoopAt (P : Program) (c : Code) (Q : Exit → Act → World → Prop) (a : Act) (w : World) : Prop :=
  ∀ (b : Frame) (k : List Item) (cs : List Frame), ∃ e a' w', Q e a' w' ∧ Arrives P (lone (b.at a (.code c :: .inLoop c :: k)) cs w) b k cs e a' w'

theorem LoopAt.round {P : Program} {c : Code} {Q : Exit → Act → World → Prop} {a : Act} {w : World} (h : c.wp P (Exit.then (LoopAt P c Q) Q) a w) : LoopAt P c Q a w := by
  intro b k cs
  obtain ⟨e, a₁, w₁, hq, harr⟩ := h b (.inLoop c :: k) cs
  cases e with
  | normal =>
    obtain ⟨e₂, a₂, w₂, hq₂, harr₂⟩ := hq b k cs
    exact ⟨e₂, a₂, w₂, hq₂, .of_steps (Steps.trans harr (.one step_inLoop)) harr₂⟩
  | exit id => exact ⟨_, a₁, w₁, hq, .pass (x := .inLoop c) rfl (fun _ _ => .inl (by simp)) harr⟩
  | goto l => exact ⟨_, a₁, w₁, hq, .pass (x := .inLoop c) rfl (fun _ _ => .inl (by simp)) harr⟩
  | ret => exact ⟨_, a₁, w₁, hq, .pass (x := .inLoop c) rfl (fun _ _ => .inl (by simp)) harr⟩
  | panic ch => exact ⟨_, a₁, w₁, hq, .pass (x := .inLoop c) rfl (fun _ _ => .inl (by simp)) harr⟩
  | outgrown => exact ⟨_, a₁, w₁, hq, .pass (x := .inLoop c) rfl (fun _ _ => .inl (by simp)) harr⟩

theorem LoopAt.wp {P : Program} {c : Code} {Q : Exit → Act → World → Prop} {a : Act} {w : World} (h : LoopAt P c Q a w) : (Code.loop c).wp P Q a w := fun b k cs =>
  let ⟨e, a', w', hq, harr⟩ := h b k cs
  ⟨e, a', w', hq, .of_steps (.one step_loop) harr⟩

section
variable {P : Program} [Tb P] {μ : Mu} {A : Nat → Prop} {h : H} {w : World} {σ : St} {a : Act}

theorem Post.mono {k k' : St → Bool} {a' : Act} {w' : World} (h : Post P μ A σ w k a' w') (hk : ∀ τ, k τ = true → k' τ = true) : Post P μ A σ w k' a' w' :=
  let ⟨τ, μ', A', h1, h2, h3, h4⟩ := h
  ⟨τ, μ', A', hk τ h1, h2, h3, h4⟩

theorem PostK.after {τ : St} {μ' : Mu} {A' : Nat → Prop} {w' : World} (hnt : τ.nt = σ.nt) (hL : Leads P μ A σ.h w μ' A' τ.h w') {k : K} {e : Exit} {a'' : Act} {w'' : World} (h : PostK P μ' A' τ w' k e a'' w'') : PostK P μ A σ w k e a'' w'' := by
  obtain ⟨x, rfl, ρ, μ'', A'', h1, h2, h3, h4⟩ := h
  exact ⟨x, rfl, ρ, μ'', A'', h1, h2.trans hnt, h3, hL.trans h4⟩

theorem exec_ok {Γ : FuncId → Option CT} (hΓ : ∀ g F, Γ g = some F → CTok P g F) {D : List Oper → St → (St → Bool) → Bool} (hD : Dok P D) (fuel : Nat) :
    ∀ (c : Code) {μ : Mu} {A : Nat → Prop} {σ : St} {a : Act} {w : World} {k : K} (hR : Rel P μ A σ a w) (hk : exec P Γ D fuel c σ k = true), c.wp P (PostK P μ A σ w k) a w := by
  have here : ∀ {μ : Mu} {A : Nat → Prop} {σ : St} {a : Act} {w : World} {k : K} (x : Ex), Rel P μ A σ a w → k x σ = true → PostK P μ A σ w k x.out a w := fun {μ A σ a w k} x hR hk => ⟨x, rfl, σ, μ, A, hk, rfl, hR, .refl hR.env⟩
  intro c
  induction c with
  | skip => intro μ A σ a w k hR hk; exact wp_skip (here .nrm hR hk)
  | label l => intro μ A σ a w k hR hk; exact wp_label (here .nrm hR hk)
  | exit id => intro μ A σ a w k hR hk; exact wp_exit (here (.exit id) hR hk)
  | ret => intro μ A σ a w k hR hk; exact wp_ret (here .ret hR hk)
  | region id ops d =>
    intro μ A σ a w k hR hk
    cases d with
    | false =>
      simp only [exec] at hk
      refine wp_region ?_
      have := runOps_ok (Q := PostK P μ A σ w k) hΓ ops.toList 0 (by simp) hR hk (fun a' w' hp => ⟨.nrm, rfl, hp⟩)
      simpa using this
    | true =>
      simp only [exec] at hk
      exact wp_mono (hD id ops σ _ μ A a w hk hR) fun e a' w' ⟨he, hp⟩ => ⟨.nrm, he, hp⟩
  | seq x y ihx ihy =>
    intro μ A σ a w k hR hk
    simp only [exec] at hk
    refine wp_seq (wp_mono (ihx hR hk) ?_)
    rintro e a' w' ⟨ex, rfl, τ, μ', A', h1, h2, h3, h4⟩
    cases ex with
    | nrm => exact wp_mono (ihy h3 h1) fun e a'' w'' hp => hp.after h2 h4
    | exit i => exact ⟨.exit i, rfl, τ, μ', A', h1, h2, h3, h4⟩
    | ret => exact ⟨.ret, rfl, τ, μ', A', h1, h2, h3, h4⟩
  | cond c x y ihx ihy =>
    intro μ A σ a w k hR hk
    simp only [exec] at hk
    split at hk
    · rename_i t ht
      have hv := ev_ok hR ht
      simp only [VR, SR] at hv
      refine wp_cond hv ?_
      cases t with
      | true => exact ihx hR hk
      | false => exact ihy hR hk
    · cases hk
  | block id c ih =>
    intro μ A σ a w k hR hk
    simp only [exec] at hk
    refine wp_block (wp_mono (ih hR hk) ?_)
    rintro e a' w' ⟨ex, rfl, τ, μ', A', h1, h2, h3, h4⟩
    cases ex with
    | nrm => exact ⟨.nrm, rfl, τ, μ', A', h1, h2, h3, h4⟩
    | exit i =>
      simp only [Bool.cond_eq_ite, beq_iff] at h1
      simp only [Ex.out, Exit.inBlock]
      split
      · rename_i e
        rw [if_pos e] at h1
        exact ⟨.nrm, rfl, τ, μ', A', h1, h2, h3, h4⟩
      · rename_i e
        rw [if_neg e] at h1
        exact ⟨.exit i, rfl, τ, μ', A', h1, h2, h3, h4⟩
    | ret => exact ⟨.ret, rfl, τ, μ', A', h1, h2, h3, h4⟩
  | loop c ih =>
    intro μ A σ a w k hR hk
    simp only [exec] at hk
    refine LoopAt.wp ?_
    have key : ∀ (n : Nat) {μ : Mu} {A : Nat → Prop} {σ : St} {a : Act} {w : World}, Rel P μ A σ a w → iter n (exec P Γ D fuel c) σ k = true → LoopAt P c (PostK P μ A σ w k) a w := by
      intro n
      induction n with
      | zero => intro μ A σ a w hR hk; cases hk
      | succ n ihn =>
        intro μ A σ a w hR hk
        simp only [iter] at hk
        refine LoopAt.round (wp_mono (ih hR hk) ?_)
        rintro e a' w' ⟨ex, rfl, τ, μ', A', h1, h2, h3, h4⟩
        cases ex with
        | nrm =>
          have := ihn h3 h1
          intro b kk cs
          obtain ⟨e, a'', w'', hq, harr⟩ := this b kk cs
          exact ⟨e, a'', w'', hq.after h2 h4, harr⟩
        | exit i => exact ⟨.exit i, rfl, τ, μ', A', h1, h2, h3, h4⟩
        | ret => exact ⟨.ret, rfl, τ, μ', A', h1, h2, h3, h4⟩
    exact key fuel hR hk
  | _ => intro μ A σ a w k hR hk; simp [exec] at hk

theorem mkFr_get : ∀ (vs : List V) (i : Nat) (t : T V) (j : Nat), (mkFr i vs t).get j = if i ≤ j ∧ j < i + vs.length then vs[j - i]? else t.get j
  | [], i, t, j => by rw [if_neg (by simp only [List.length_nil]; omega), mkFr]
  | v :: vs, i, t, j => by
    rw [mkFr, mkFr_get vs (i + 1)]
    simp only [T.get_set, List.length_cons]
    by_cases e : j = i
    · subst e
      rw [if_neg (by omega), if_pos rfl, if_pos (by omega)]
      simp
    · by_cases q : i + 1 ≤ j ∧ j < i + 1 + vs.length
      · rw [if_pos q, if_pos (by omega), show j - i = (j - (i + 1)) + 1 by omega]
        simp
      · rw [if_neg q, if_neg e, if_neg (by omega)]


/-- A call's first state. -/
theorem entered {args : List V} {vals : List Value} (hv : VRs μ A args vals) (hE : Env P μ A h w) {n : Nat} (hn : args.length ≤ n) :
    Rel P μ A ⟨mkFr 0 args .l, n, h⟩ { tmps := vals.toArray ++ Array.replicate (n - vals.toArray.size) undef, defers := [] } w := by
  have hlen := VRs.length _ _ hv
  refine ⟨rfl, by simp; omega, fun t v ht => ?_, hE⟩
  simp only [mkFr_get, T.get_l, Nat.zero_le, true_and, Nat.zero_add, Nat.sub_zero] at ht
  split at ht
  · rename_i hlt
    obtain ⟨y, y1, y2⟩ := VRs.get _ _ _ _ hv ht
    simp only [Array.getD_eq_getD_getElem?]
    rw [Array.getElem?_append_left (by simp; omega)]
    simp only [List.getElem?_toArray, y1, Option.getD_some]
    exact y2
  · cases ht

theorem resC_ok (hR : Rel P μ A σ a w) : ∀ (l : List ResultVar) {c : Bool} {vs : List V}, resC P σ l = some (c, vs) → c = true →
    ∃ xs : List Value, (l.mapM (m := Sem) fun | .tmp t => pure (a.tmps.getD t undef) | .cell b t => do loadVar t (← asAddr (a.tmps.getD b undef))).run P w = .ok xs w ∧ VRs μ A vs xs
  | [], c, vs, h, hc => by
    simp only [resC, Option.some.injEq, Prod.mk.injEq] at h
    obtain ⟨rfl, rfl⟩ := h
    exact ⟨[], rfl, by simp [VRs]⟩
  | .tmp t :: r, c, vs, h, hc => by
    simp only [resC] at h
    split at h
    · rename_i v c' l hv hl
      simp only [Option.some.injEq, Prod.mk.injEq] at h
      obtain ⟨rfl, rfl⟩ := h
      obtain ⟨xs, h1, h2⟩ := resC_ok hR r hl hc
      refine ⟨_ :: xs, ?_, by simp only [VRs]; exact ⟨hR.fr t v hv, h2⟩⟩
      simp only [List.mapM_cons, Sem.run_bind, Sem.run_pure, Result.andThen_ok]
      rw [h1]
      rfl
    · cases h
  | .cell b t :: r, c, vs, h, hc => by
    simp only [resC] at h
    split at h
    · rename_i q v c' l hv hl
      simp only [Option.some.injEq, Prod.mk.injEq] at h
      obtain ⟨rfl, rfl⟩ := h
      simp only [Bool.and_eq_true] at hc
      obtain ⟨xs, h1, h2⟩ := resC_ok hR r hl hc.2
      obtain ⟨p, hp, hld⟩ := Option.bind_eq_some_iff.1 hv
      obtain ⟨z, z1, _, ad, z2, z3⟩ := loadC_ok (P := P) hR.env.cells hld hc.1 (hR.fr b p hp)
      refine ⟨z :: xs, ?_, by simp only [VRs]; exact ⟨z1, h2⟩⟩
      simp only [List.mapM_cons, Sem.run_bind, z2, show asAddr (.pointer (some ad)) = pure ad from rfl, Sem.run_pure, Result.andThen_ok, z3]
      rw [h1]
      rfl
    · cases h

theorem results_ok (hR : Rel P μ A σ a w) {fn : Func} {vs : List V} (h : resC P σ fn.results.toList = some (true, vs)) : ∃ x, (results fn a.tmps).run P w = .ok x w ∧ VR μ A (tupV vs) x := by
  obtain ⟨xs, h1, h2⟩ := resC_ok hR _ h rfl
  have hlen := VRs.length _ _ h2
  refine ⟨if h : xs.toArray.size = 1 then xs.toArray[0] else .tuple xs.toArray, ?_, ?_⟩
  · unfold results
    rw [Array.mapM_eq_mapM_toList, map_eq_pure_bind]
    simp only [Sem.run_bind]
    erw [h1]
    rfl
  · unfold tupV
    split
    · rename_i v
      match xs, h2, hlen with
      | [x], h2, _ =>
        simp only [VRs] at h2
        exact h2.1
    · rename_i hne
      have : xs.toArray.size ≠ 1 := fun e => by
        have e' : vs.length = 1 := by rw [hlen]; simpa using e
        match vs, e' with
        | [v], _ => exact hne v rfl
      rw [dif_neg this]
      simp only [VR]
      exact ⟨xs, rfl, h2⟩

theorem body_calls {Γ : FuncId → Option CT} (hΓ : ∀ g F, Γ g = some F → CTok P g F) {D : List Oper → St → (St → Bool) → Bool} (hD : Dok P D) {fuel : Nat} {f : FuncId} {args : List V} {vals : List Value} (hv : VRs μ A args vals) (hE : Env P μ A h w) {k : V → H → Bool}
    (hk : bodyF P Γ D fuel f args h k = true) :
    (∃ fn, P.funcs[f]? = some fn ∧ fn.body.isSome = true ∧ (fn.name == "runtime.NumGoroutine") = false) ∧
    Calls P f vals.toArray w fun e w' => ∃ x v h' μ' A', e = .returned x ∧ k v h' = true ∧ VR μ' A' v x ∧ Leads P μ A h w μ' A' h' w' := by
  unfold bodyF at hk
  split at hk
  · cases hk
  rename_i fn hfn
  simp only [Bool.cond_eq_ite, Bool.and_eq_true, ble_iff] at hk
  split at hk
  rotate_left
  · cases hk
  rename_i hok
  obtain ⟨hok, hlen⟩ := hok
  split at hk
  · cases hk
  rename_i c hc
  refine ⟨⟨fn, hfn, by rw [hc]; rfl, by simpa [okFn] using hok⟩, calls_of_wp hfn hc ?_⟩
  refine wp_mono (exec_ok hΓ hD fuel c (entered hv hE hlen) hk) ?_
  have fin : ∀ {τ : St} {μ' : Mu} {A' : Nat → Prop} {a' : Act} {w' : World}, (match resC P τ fn.results.toList with
        | some (c, l) => if c = true then k (tupV l) τ.h else false
        | none => false) = true → Rel P μ' A' τ a' w' → Leads P μ A h w μ' A' τ.h w' →
      a'.defers = [] ∧ ∃ v, (results fn a'.tmps).run P w' = .ok v w' ∧ ∃ x v' h' μ' A', Ending.returned v = .returned x ∧ k v' h' = true ∧ VR μ' A' v' x ∧ Leads P μ A h w μ' A' h' w' := by
    intro τ μ' A' a' w' h1 hR hL
    split at h1
    · rename_i c l hres
      split at h1
      · rename_i hc
        subst hc
        obtain ⟨x, x1, x2⟩ := results_ok hR hres
        exact ⟨hR.defers, x, x1, x, _, _, _, _, rfl, h1, x2, hL⟩
      · cases h1
    · cases h1
  rintro e a' w' ⟨ex, rfl, τ, μ', A', h1, h2, h3, h4⟩
  cases ex with
  | nrm => exact fin h1 h3 h4
  | exit i => cases h1
  | ret => exact fin h1 h3 h4

theorem body_ok {Γ : FuncId → Option CT} (hΓ : ∀ g F, Γ g = some F → CTok P g F) {D : List Oper → St → (St → Bool) → Bool} (hD : Dok P D) (fuel : Nat) (f : FuncId) : CTok P f (bodyF P Γ D fuel f) := by
  intro args h k vals w μ A hv hE hk o a next Q hn
  obtain ⟨⟨fn, hfn, hb, hname⟩, hcalls⟩ := body_calls hΓ hD hv hE hk
  have hrun : (callFunc f vals.toArray).run P w = .ok (.enter f vals.toArray) w := by
    have hb' : ¬ (fn.body = none) := fun e => by rw [e] at hb; cases hb
    have hn' : ¬ (fn.name = "runtime.NumGoroutine") := by simpa using hname
    simp [callFunc, hfn, hn', hb']
  rw [hrun, Oper.upon_enter]
  exact hcalls.mono fun e w' ⟨x, v, h', μ', A', h1, h2, h3, h4⟩ => by
    subst h1
    exact hn x w' ⟨v, h', μ', A', h2, h3, h4⟩

theorem calls_ok {over : FuncId → Option CT} (hover : ∀ g F, over g = some F → CTok P g F) {D : (FuncId → Option CT) → List Oper → St → (St → Bool) → Bool} (hD : ∀ Γ : FuncId → Option CT, (∀ g F, Γ g = some F → CTok P g F) → Dok P (D Γ)) (fuel : Nat) :
    ∀ (n : Nat) (g : FuncId) (F : CT), calls P over D fuel n g = some F → CTok P g F
  | 0, g, F, h => hover g F h
  | n + 1, g, F, h => by
    have ih := calls_ok hover hD fuel n
    simp only [calls] at h
    split at h
    · rename_i F' hF
      cases h
      exact hover g _ hF
    · cases h
      exact body_ok ih (hD _ ih) fuel g

end
end Go.Proofs.YteionboacdkfjaaDoor.X
