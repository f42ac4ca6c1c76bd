/-
  X, part L: the executor says what the model's machine does: operations, guards, regions, control, bodies.
-/
import Derived.Test.YteionboacdkfjaaDoorYK
namespace Go.Proofs.YteionboacdkfjaaDoor.X
set_option linter.unusedSectionVars false

/-- What the package-level variables hold that nobody writes. -/
def GW (P : Program) [Tb P] (w : World) : Prop :=
  ∀ g c, g < nGlob P → glX P g = some c → ∀ j s, cat c j = some s → ∃ x, w.cell? ⟨g, j, none⟩ = some x ∧ ∀ μ A, SR μ A s x

theorem GW.ext {P : Program} [Tb P] {F : Nat → Nat → Prop} {w w' : World} (h : GW P w) (e : Ext F w w') (hF : ∀ b o, F b o → nGlob P ≤ b) : GW P w' := fun g c hg hc j s hs => by
  obtain ⟨x, h1, h2⟩ := h g c hg hc j s hs
  exact ⟨x, e.cell h1 (fun hf => by have := hF g j hf; omega), h2⟩

structure Env (P : Program) [Tb P] (μ : Mu) (A : Nat → Prop) (h : H) (w : World) : Prop where
  hr : HR μ A h w
  bound : ∀ i, A i → i < h.nx
  glob : ∀ g, g < nGlob P → A g ∧ (μ g).b = g ∧ (μ g).o = 0
  lo : h.lo ≤ h.nx
  gw : GW P w
  gf : ∀ b o, foot μ h b o → nGlob P ≤ b
  gs : nGlob P ≤ w.heap.size

structure Leads (P : Program) [Tb P] (μ : Mu) (A : Nat → Prop) (h : H) (w : World) (μ' : Mu) (A' : Nat → Prop) (h' : H) (w' : World) : Prop where
  env : Env P μ' A' h' w'
  step : Step μ A h w μ' A' h' w'
  nx : h.nx ≤ h'.nx

structure Rel (P : Program) [Tb P] (μ : Mu) (A : Nat → Prop) (σ : St) (a : Act) (w : World) : Prop where
  defers : a.defers = []
  nt : a.tmps.size = σ.nt
  fr : ∀ t v, σ.fr.get t = some v → VR μ A v (a.tmps.getD t undef)
  env : Env P μ A σ.h w

/-- A call comes back, with a value and a world of which this holds. -/
def Back (P : Program) (f : FuncId) (vals : Array Value) (w : World) (R : Value → World → Prop) : Prop :=
  ∀ (o : Oper) (a : Act) (next : Act → World → Prop) (Q : Exit → Act → World → Prop), (∀ x w', R x w' → next (a.put o.dst x) w') → o.upon P a next Q ((callFunc f vals).run P w)

/-- A contract is true. -/
def CTok (P : Program) [Tb P] (f : FuncId) (F : CT) : Prop :=
  ∀ (args : List V) (h : H) (k : V → H → Bool) (vals : List Value) (w : World) (μ : Mu) (A : Nat → Prop), VRs μ A args vals → Env P μ A h w → F args h k = true →
    Back P f vals.toArray w fun x w' => ∃ v h' μ' A', k v h' = true ∧ VR μ' A' v x ∧ Leads P μ A h w μ' A' h' w'

/-- A contract is true; and where 'e' says so, nothing that was there is changed by the call. -/
def CTokE (P : Program) [Tb P] (e : Bool) (f : FuncId) (F : CT) : Prop :=
  ∀ (args : List V) (h : H) (k : V → H → Bool) (vals : List Value) (w : World) (μ : Mu) (A : Nat → Prop), VRs μ A args vals → Env P μ A h w → F args h k = true →
    Back P f vals.toArray w fun x w' => ∃ v h' μ' A', k v h' = true ∧ VR μ' A' v x ∧ Leads P μ A h w μ' A' h' w' ∧ (e = true → Ext (fun _ _ => False) w w')

theorem CTokE.weak {P : Program} [Tb P] {e : Bool} {f : FuncId} {F : CT} (h : CTokE P e f F) : CTok P f F := fun args hh k vals w μ A hv hE hk o a next Q hn =>
  h args hh k vals w μ A hv hE hk o a next Q fun x w' ⟨v, h', μ', A', h1, h2, h3, _⟩ => hn x w' ⟨v, h', μ', A', h1, h2, h3⟩
theorem CTok.hard {P : Program} [Tb P] {f : FuncId} {F : CT} (h : CTok P f F) : CTokE P false f F := fun args hh k vals w μ A hv hE hk o a next Q hn =>
  h args hh k vals w μ A hv hE hk o a next Q fun x w' ⟨v, h', μ', A', h1, h2, h3⟩ => hn x w' ⟨v, h', μ', A', h1, h2, h3, fun e => by cases e⟩

section
variable {P : Program} [Tb P] {μ : Mu} {A : Nat → Prop} {h : H} {w : World} {σ : St} {a : Act}

theorem Leads.refl (hE : Env P μ A h w) : Leads P μ A h w μ A h w := ⟨hE, Step.refl hE.hr, Nat.le_refl _⟩

theorem Leads.trans {μ' μ'' : Mu} {A' A'' : Nat → Prop} {h' h'' : H} {w' w'' : World} (s : Leads P μ A h w μ' A' h' w') (t : Leads P μ' A' h' w' μ'' A'' h'' w'') : Leads P μ A h w μ'' A'' h'' w'' :=
  ⟨t.env, s.step.trans t.step, Nat.le_trans s.nx t.nx⟩

/-- One step further, with another count of numbers. -/
theorem Env.stepped (hE : Env P μ A h w) {μ' : Mu} {A' : Nat → Prop} {h' : H} {w' : World} (s : Step μ A h w μ' A' h' w') {nx : Nat} (hA : ∀ i, A' i → A i ∨ i = h.nx) (hnx : h.nx + 1 ≤ nx) : Leads P μ A h w μ' A' { h' with nx := nx } w' := by
  refine ⟨⟨s.hr.nx (fun _ => rfl), fun i hi => ?_, fun g hg => ?_, ?_, hE.gw.ext s.ext hE.gf, fun b o hf => (s.foot b o hf).elim (hE.gf b o) (fun q => Nat.le_trans hE.gs q), Nat.le_trans hE.gs s.ext.size⟩, ⟨s.hr.nx (fun _ => rfl), s.sub, s.agree, s.ext, s.foot, s.lo, s.keep⟩, by simp only; omega⟩
  · simp only
    rcases hA i hi with q | q
    · have := hE.bound i q; omega
    · omega
  · obtain ⟨h1, h2, h3⟩ := hE.glob g hg
    exact ⟨s.sub g h1, by rw [s.agree g h1]; exact h2, by rw [s.agree g h1]; exact h3⟩
  · simp only
    rw [s.lo]
    have := hE.lo
    omega

theorem Env.cells (hE : Env P μ A h w) : CellsOk P μ A h w := fun id c hc j s hs => by
  unfold cellsC at hc
  split at hc
  · rename_i b hb
    cases hc
    exact hE.hr.cells id b hb j s hs
  · simp only [Bool.cond_eq_ite, blt_iff] at hc
    split at hc
    · rename_i hg
      obtain ⟨_, h2, h3⟩ := hE.glob id hg
      obtain ⟨x, x1, x2⟩ := hE.gw id c hg hc j s hs
      exact ⟨x, by rw [h2, h3, Nat.zero_add]; exact x1, x2 μ A⟩
    · cases hc

theorem ev_ok (hR : Rel P μ A σ a w) {x : Operand} {v : V} (h : ev P σ.fr x = some v) : VR μ A v (a.eval x) := by
  cases x with
  | tmp t => exact hR.fr t v h
  | const c => exact constV_VR h
  | global g =>
    simp only [ev, Bool.cond_eq_ite, blt_iff] at h
    split at h
    · rename_i hg
      simp only [Option.some.injEq] at h
      subst h
      obtain ⟨h1, h2, h3⟩ := hR.env.glob g hg
      simp only [VR, SR, Act.eval]
      exact ⟨h1, by simp [AA.conc, AA.real, h2, h3]⟩
    · cases h
  | func f =>
    simp only [ev, Option.some.injEq] at h
    subst h
    simp only [VR, SR, Act.eval]
    exact ⟨fun a ha => (by cases ha), rfl⟩

theorem put_size (a : Act) (d : Option Tmp) (x : Value) : (a.put d x).tmps.size = a.tmps.size := by
  cases d <;> simp [Act.put]
theorem put_defers (a : Act) (d : Option Tmp) (x : Value) : (a.put d x).defers = a.defers := by
  cases d <;> simp [Act.put]

theorem Rel.put (hR : Rel P μ A σ a w) {μ' : Mu} {A' : Nat → Prop} {h' : H} {w' : World} (hL : Leads P μ A σ.h w μ' A' h' w') {v : V} {x : Value} (hv : VR μ' A' v x) {d : Option Tmp} {τ : St} (hp : putD d v { σ with h := h' } = some τ) :
    Rel P μ' A' τ (a.put d x) w' ∧ τ.h = h' ∧ τ.nt = σ.nt := by
  have old : ∀ t u, σ.fr.get t = some u → VR μ' A' u (a.tmps.getD t undef) := fun t u hu => (hR.fr t u hu).mono hL.step.agree hL.step.sub
  cases d with
  | none =>
    simp only [putD, Option.some.injEq] at hp
    subst hp
    exact ⟨⟨hR.defers, hR.nt, old, hL.env⟩, rfl, rfl⟩
  | some d =>
    simp only [putD, Bool.cond_eq_ite, blt_iff] at hp
    split at hp
    · rename_i hd
      simp only [Option.some.injEq] at hp
      subst hp
      refine ⟨⟨hR.defers, by simp [Act.put, hR.nt], fun t u hu => ?_, hL.env⟩, rfl, rfl⟩
      simp only [T.get_set] at hu
      simp only [Act.put, Array.getD_eq_getD_getElem?]
      split at hu
      · rename_i e
        subst e
        cases hu
        rw [Array.getElem?_setIfInBounds_self_of_lt (by rw [hR.nt]; exact hd)]
        exact hv
      · rename_i e
        rw [Array.getElem?_setIfInBounds_ne (fun q => e q.symm)]
        have := old t u hu
        rwa [Array.getD_eq_getD_getElem?] at this
    · cases hp

/-- Operations that make no more than new blocks. -/
def isPure : Op → Bool
  | .move _ | .assign _ | .pick _ _ _ | .nilCheck _ | .binOp _ _ _ _ _ | .unOp _ _ _ | .convert _ _ _ | .makeInterface _ _ | .extract _ _ | .field _ _ _ | .fieldAddr _ _ _ | .indexAddr _ _ _ | .index _ _ _ | .slice _ _ _ _ _ | .build _ _ => true
  | .call ⟨.builtin .len, _, _⟩ | .call ⟨.builtin .cap, _, _⟩ | .call ⟨.builtin .min, _, _⟩ | .call ⟨.builtin .max, _, _⟩ => true
  | _ => false
def isLoad : Op → Bool
  | .load _ _ => true
  | _ => false
def isAlloc : Op → Bool
  | .alloc _ | .box _ _ | .buildSlice _ _ _ | .makeSlice _ _ _ => true
  | _ => false
def isSoft (o : Op) : Bool := isPure o || (isLoad o || isAlloc o)
/-- Calls of functions of which it is known that they change nothing that was there. -/
def softC (sf : FuncId → Bool) : Op → Bool
  | .call ⟨.value (.func g), _, _⟩ => sf g
  | _ => false
def softO (sf : FuncId → Bool) (o : Op) : Bool := isSoft o || softC sf o

theorem stepC_ok0 (hr : HR μ A σ.h w) (hcl : CellsOk P μ A σ.h w) {ρ : Operand → Value} (he : ∀ x v, ev P σ.fr x = some v → VR μ A v (ρ x)) {id : Nat} (hid : ¬ A id) (hlo : σ.h.lo ≤ id) {o : Oper} {c : Bool} {v : V} {h' : H} (hs : stepC P id o σ = some (c, v, h')) (hc : c = true) :
    ∃ z w' μ' A', ((execOp ρ o).run P w = .ok (.value z) w' ∨ ((execOp ρ o).run P w = .ok .skip w' ∧ v = .jk)) ∧ VR μ' A' v z ∧ Step μ A σ.h w μ' A' h' w' ∧ ∀ i, A' i → A i ∨ i = id := by
  have hal : ∀ {b : List Seg}, allocC P (ev P σ.fr) o.op id = some (true, v, b) → h' = { σ.h with m := σ.h.m.set id ⟨b, false, false⟩ } → ∃ z w' μ' A', ((execOp ρ o).run P w = .ok (.value z) w' ∨ ((execOp ρ o).run P w = .ok .skip w' ∧ v = .jk)) ∧ VR μ' A' v z ∧ Step μ A σ.h w μ' A' h' w' ∧ ∀ i, A' i → A i ∨ i = id := fun {b} ha hh => by
    obtain ⟨z, w', p, h1, h2, h3, _⟩ := allocC_ok hr he hid hlo ha rfl σ.h.nx
    subst hh
    exact ⟨z, w', _, _, .inl h1, h2, h3, fun i hi => hi⟩
  have hpu : pureC P (ev P σ.fr) o.op = some (true, v) → h' = σ.h → ∃ z w' μ' A', ((execOp ρ o).run P w = .ok (.value z) w' ∨ ((execOp ρ o).run P w = .ok .skip w' ∧ v = .jk)) ∧ VR μ' A' v z ∧ Step μ A σ.h w μ' A' h' w' ∧ ∀ i, A' i → A i ∨ i = id := fun ha hh => by
    obtain ⟨z, h1, h2⟩ := pureC_ok (P := P) he ha rfl
    subst hh
    exact ⟨z, w, μ, A, .inl (h2 w), h1, Step.refl hr, fun i hi => .inl hi⟩
  have hal' : (match allocC P (ev P σ.fr) o.op id with
      | some (c, v, b) => some (c, v, { σ.h with m := σ.h.m.set id ⟨b, false, false⟩ })
      | none => none) = some (c, v, h') → ∃ z w' μ' A', ((execOp ρ o).run P w = .ok (.value z) w' ∨ ((execOp ρ o).run P w = .ok .skip w' ∧ v = .jk)) ∧ VR μ' A' v z ∧ Step μ A σ.h w μ' A' h' w' ∧ ∀ i, A' i → A i ∨ i = id := fun ha => by
    split at ha
    · rename_i c' v' b hb
      simp only [Option.some.injEq, Prod.mk.injEq] at ha
      obtain ⟨rfl, rfl, rfl⟩ := ha
      subst hc
      exact hal hb rfl
    · cases ha
  unfold stepC at hs
  simp only at hs
  split at hs
  · rename_i t ho; exact hal' (by rw [ho]; rw [ho] at hs; exact hs)
  · rename_i t x ho; exact hal' (by rw [ho]; rw [ho] at hs; exact hs)
  · rename_i t n ps ho; exact hal' (by rw [ho]; rw [ho] at hs; exact hs)
  · rename_i t l m ho; exact hal' (by rw [ho]; rw [ho] at hs; exact hs)
  · -- load
    rename_i t x ho
    split at hs
    · rename_i av hav
      split at hs
      · rename_i c' v' hl
        simp only [Option.some.injEq, Prod.mk.injEq] at hs
        obtain ⟨rfl, rfl, rfl⟩ := hs
        obtain ⟨z, h1, h2, _⟩ := loadC_ok (P := P) hcl hl hc (he _ _ hav)
        exact ⟨z, w, μ, A, .inl (by simp [execOp, ho, h2]), h1, Step.refl hr, fun i hi => .inl hi⟩
      · cases hs
    · cases hs
  · -- store
    rename_i t x y ho
    split at hs
    · rename_i av vv hav hvv
      split at hs
      · rename_i c' h2 hl
        simp only [Option.some.injEq, Prod.mk.injEq] at hs
        obtain ⟨rfl, rfl, rfl⟩ := hs
        obtain ⟨w', h1, h2⟩ := storeC_ok (P := P) hr hl hc (he _ _ hav) (he _ _ hvv)
        exact ⟨undef, w', μ, A, .inr ⟨by simp [execOp, ho, h1], rfl⟩, by simp only [VR], h2, fun i hi => .inl hi⟩
      · cases hs
    · cases hs
  · -- append
    rename_i args ts ho
    split at hs
    · rename_i xs hxs
      have hX := argsOf_ok he _ _ hxs
      obtain ⟨z, w', μ', A', h1, h2⟩ := memC_ok (P := P) hr hid hlo hs hc hX o.type (args.map fun | .const _ => true | _ => false)
      refine ⟨z, w', μ', A', .inl ?_, h2⟩
      have e1 : ((args.toList).map ρ).toArray = args.map ρ := by cases args; simp
      rw [e1] at h1
      simp only [Array.toArray_toList] at h1
      simp only [execOp, ho, Sem.run_bind, resolve, Sem.run_pure, Result.andThen_ok, invoke]
      exact h1
    · cases hs
  · rename_i args ts ho
    split at hs
    · rename_i xs hxs
      have hX := argsOf_ok he _ _ hxs
      obtain ⟨z, w', μ', A', h1, h2⟩ := memC_ok (P := P) hr hid hlo hs hc hX o.type (args.map fun | .const _ => true | _ => false)
      refine ⟨z, w', μ', A', .inl ?_, h2⟩
      have e1 : ((args.toList).map ρ).toArray = args.map ρ := by cases args; simp
      rw [e1] at h1
      simp only [Array.toArray_toList] at h1
      simp only [execOp, ho, Sem.run_bind, resolve, Sem.run_pure, Result.andThen_ok, invoke]
      exact h1
    · cases hs
  · split at hs
    · rename_i c' v' hp
      simp only [Option.some.injEq, Prod.mk.injEq] at hs
      obtain ⟨rfl, rfl, rfl⟩ := hs
      subst hc
      exact hpu hp rfl
    · cases hs

/-- Of an operation that makes no more than new blocks: nothing of what was there has changed. -/
theorem stepC_soft (hr : HR μ A σ.h w) (hcl : CellsOk P μ A σ.h w) {ρ : Operand → Value} (he : ∀ x v, ev P σ.fr x = some v → VR μ A v (ρ x)) {id : Nat} (hid : ¬ A id) (hlo : σ.h.lo ≤ id) {o : Oper} {c : Bool} {v : V} {h' : H} (hs : stepC P id o σ = some (c, v, h')) (hc : c = true) (hsoft : isSoft o.op = true) {z : Next} {w' : World} (hrun : (execOp ρ o).run P w = .ok z w') : Ext (fun _ _ => False) w w' := by
  have hpu : pureC P (ev P σ.fr) o.op = some (true, v) → Ext (fun _ _ => False) w w' := fun ha => by
    obtain ⟨z', h1, h2⟩ := pureC_ok (P := P) (μ := μ) (A := A) he ha rfl
    rw [h2 w] at hrun
    cases hrun
    exact Ext.refl _ _
  have hal : (match allocC P (ev P σ.fr) o.op id with
      | some (c, v, b) => some (c, v, { σ.h with m := σ.h.m.set id ⟨b, false, false⟩ })
      | none => none) = some (c, v, h') → Ext (fun _ _ => False) w w' := fun ha => by
    split at ha
    · rename_i c' v' b hb
      simp only [Option.some.injEq, Prod.mk.injEq] at ha
      obtain ⟨rfl, rfl, rfl⟩ := ha
      obtain ⟨z', w'', p, h1, _, _, h4⟩ := allocC_ok hr he hid hlo hb hc σ.h.nx
      rw [h1] at hrun
      cases hrun
      exact h4
    · cases ha
  unfold stepC at hs
  simp only at hs
  split at hs
  · rename_i t ho; exact hal (by rw [ho]; rw [ho] at hs; exact hs)
  · rename_i t x ho; exact hal (by rw [ho]; rw [ho] at hs; exact hs)
  · rename_i t n ps ho; exact hal (by rw [ho]; rw [ho] at hs; exact hs)
  · rename_i t l m ho; exact hal (by rw [ho]; rw [ho] at hs; exact hs)
  · rename_i t x ho
    split at hs
    · rename_i av hav
      split at hs
      · rename_i c' v' hl
        simp only [Option.some.injEq, Prod.mk.injEq] at hs
        obtain ⟨rfl, rfl, rfl⟩ := hs
        obtain ⟨z', h1, h2, _⟩ := loadC_ok (P := P) hcl hl hc (he _ _ hav)
        have : (execOp ρ o).run P w = .ok (.value z') w := by simp [execOp, ho, h2]
        rw [this] at hrun
        cases hrun
        exact Ext.refl _ _
      · cases hs
    · cases hs
  · rename_i t x y ho; rw [ho] at hsoft; cases hsoft
  · rename_i args ts ho; rw [ho] at hsoft; cases hsoft
  · rename_i args ts ho; rw [ho] at hsoft; cases hsoft
  · split at hs
    · rename_i c' v' hp
      simp only [Option.some.injEq, Prod.mk.injEq] at hs
      obtain ⟨rfl, rfl, rfl⟩ := hs
      subst hc
      exact hpu hp
    · cases hs

theorem stepC_ok (hr : HR μ A σ.h w) (hcl : CellsOk P μ A σ.h w) {ρ : Operand → Value} (he : ∀ x v, ev P σ.fr x = some v → VR μ A v (ρ x)) {id : Nat} (hid : ¬ A id) (hlo : σ.h.lo ≤ id) {o : Oper} {c : Bool} {v : V} {h' : H} (hs : stepC P id o σ = some (c, v, h')) (hc : c = true) :
    ∃ z w' μ' A', ((execOp ρ o).run P w = .ok (.value z) w' ∨ ((execOp ρ o).run P w = .ok .skip w' ∧ v = .jk)) ∧ VR μ' A' v z ∧ Step μ A σ.h w μ' A' h' w' ∧ (∀ i, A' i → A i ∨ i = id) ∧ (isSoft o.op = true → Ext (fun _ _ => False) w w') := by
  obtain ⟨z, w', μ', A', h1, h2, h3, h4⟩ := stepC_ok0 (P := P) hr hcl he hid hlo hs hc
  refine ⟨z, w', μ', A', h1, h2, h3, h4, fun hsoft => ?_⟩
  rcases h1 with h1 | ⟨h1, _⟩
  · exact stepC_soft hr hcl he hid hlo hs hc hsoft h1
  · exact stepC_soft hr hcl he hid hlo hs hc hsoft h1

theorem lead_nx (hE : Env P μ A h w) {μ' : Mu} {A' : Nat → Prop} {h' : H} {w' : World} (s : Step μ A h w μ' A' h' w') (hA : ∀ i, A' i → A i ∨ i = h.nx) : Leads P μ A h w μ' A' { h' with nx := h.nx + 1 } w' := hE.stepped s hA (Nat.le_refl _)

/-- What stands behind an operation, a region or a statement. -/
def Post (P : Program) [Tb P] (μ : Mu) (A : Nat → Prop) (σ : St) (w : World) (k : St → Bool) (a' : Act) (w' : World) : Prop :=
  ∃ τ μ' A', k τ = true ∧ τ.nt = σ.nt ∧ Rel P μ' A' τ a' w' ∧ Leads P μ A σ.h w μ' A' τ.h w'

theorem callK_ok {Γ : FuncId → Option CT} {sf : FuncId → Bool} (hΓ : ∀ g F, Γ g = some F → CTokE P (sf g) g F) (hR : Rel P μ A σ a w) {o : Oper} {k : V → H → Bool} (hk : callK P Γ o σ k = true) {next : Act → World → Prop} {Q : Exit → Act → World → Prop}
    (hn : ∀ x w' v h' μ' A', k v h' = true → VR μ' A' v x → Leads P μ A σ.h w μ' A' h' w' → (softC sf o.op = true → Ext (fun _ _ => False) w w') → next (a.put o.dst x) w') : o.wp P a w next Q := by
  unfold callK at hk
  split at hk
  · rename_i c ho
    split at hk
    · rename_i g vs hcal
      split at hk
      · rename_i F hF
        unfold calleeC at hcal
        split at hcal
        · rename_i f hf
          split at hcal
          · rename_i g' caps vs' hfv hargs
            simp only [Option.some.injEq, Prod.mk.injEq] at hcal
            obtain ⟨rfl, rfl⟩ := hcal
            have hfn := ev_ok hR hfv
            simp only [VR, SR] at hfn
            obtain ⟨hcaps, hfn⟩ := hfn
            have hX := argsOf_ok (μ := μ) (A := A) (ρ := a.eval) (fun x v hx => ev_ok hR hx) _ _ hargs
            have happ : ∀ (us : List V) (xs : List Value), VRs μ A us xs → ∀ l : List AA, (∀ b ∈ l, A b.id) → VRs μ A (us ++ l.map fun b => .sc (.p (some b))) (xs ++ l.map fun b => Value.pointer (some (b.conc μ))) := by
              intro us
              induction us with
              | nil =>
                intro xs hxs l
                cases xs with
                | nil =>
                  induction l with
                  | nil => intro _; simp [VRs]
                  | cons b l ih =>
                    intro hl
                    simp only [List.nil_append, List.map_cons, VRs, VR, SR] at ih ⊢
                    exact ⟨⟨hl b (by simp), trivial⟩, ih (fun q hq => hl q (by simp [hq]))⟩
                | cons => simp only [VRs] at hxs
              | cons u us ih =>
                intro xs hxs l hl
                cases xs with
                | nil => simp only [VRs] at hxs
                | cons x xs =>
                  simp only [VRs] at hxs
                  simp only [List.cons_append, VRs]
                  exact ⟨hxs.1, ih xs hxs.2 l hl⟩
            have hall := happ _ _ hX caps hcaps
            have hb := hΓ _ _ hF _ _ _ _ _ _ _ hall hR.env hk o a next Q (fun x w' ⟨v, h', μ', A', q1, q2, q3, q4⟩ => hn x w' v h' μ' A' q1 q2 q3 fun hs => q4 (by
              obtain ⟨cl, args, ts⟩ := c
              simp only at hf
              subst hf
              rw [ho] at hs
              unfold softC at hs
              split at hs
              · rename_i g0 _ _ heq
                cases heq
                simp only [ev, Option.some.injEq, V.sc.injEq, S.fn.injEq] at hfv
                rw [← hfv.1]; exact hs
              · cases hs))
            unfold Oper.wp
            have hrun : (execOp a.eval o).run P w = (callFunc g' ((c.args.toList.map a.eval) ++ caps.map fun b => Value.pointer (some (b.conc μ))).toArray).run P w := by
              obtain ⟨cl, args, ts⟩ := c
              simp only at hf hfn hargs
              subst hf
              have e1 : ((args.toList.map a.eval) ++ caps.map fun b => Value.pointer (some (b.conc μ))).toArray = #[] ++ args.map a.eval ++ (caps.map fun b => Value.pointer (some (b.conc μ))).toArray := by cases args; simp
              simp only [execOp, ho, Sem.run_bind, resolve, hfn, Deferred.ofValue, Sem.run_pure, Result.andThen_ok, invoke, e1]
            rw [hrun]
            exact hb
          · cases hcal
        · cases hcal
      · cases hk
    · cases hk
  · cases hk

theorem runOp_ok {Γ : FuncId → Option CT} {sf : FuncId → Bool} (hΓ : ∀ g F, Γ g = some F → CTokE P (sf g) g F) (hR : Rel P μ A σ a w) {o : Oper} {k : St → Bool} (hk : runOp P Γ o σ k = true) {next : Act → World → Prop} {Q : Exit → Act → World → Prop}
    (hn : ∀ a' w', Post P μ A σ w k a' w' → (softO sf o.op = true → Ext (fun _ _ => False) w w') → next a' w') : o.wp P a w next Q := by
  unfold runOp at hk
  split at hk
  · rename_i hcall
    have hns : isSoft o.op = false := by
      unfold isCall at hcall
      split at hcall
      · rename_i f args ts ho; rw [ho]; rfl
      · cases hcall
    refine callK_ok hΓ hR hk fun x w' v h' μ' A' h1 h2 h3 hx => ?_
    split at h1
    · rename_i τ hp
      obtain ⟨r1, r2, r3⟩ := hR.put h3 h2 hp
      exact hn _ _ ⟨τ, μ', A', h1, r3, r1, by rw [r2]; exact h3⟩ (fun e => hx (by unfold softO at e; rw [hns, Bool.false_or] at e; exact e))
    · cases h1
  · rename_i hncall
    split at hk
    · rename_i c v h' hs
      simp only [Bool.cond_eq_ite] at hk
      split at hk
      · rename_i hc
        split at hk
        · rename_i τ hp
          obtain ⟨z, w', μ', A', h1, h2, h3, h4, h5⟩ := stepC_ok hR.env.hr hR.env.cells (ρ := a.eval) (fun x v hx => ev_ok hR hx) (fun hi => Nat.lt_irrefl _ (hR.env.bound _ hi)) hR.env.lo hs hc
          have hL := hR.env.stepped h3 h4 (Nat.le_refl _)
          obtain ⟨r1, r2, r3⟩ := hR.put hL h2 hp
          have hpost : ∀ x, VR μ' A' v x → next (a.put o.dst x) w' := fun x hx => by
            obtain ⟨r1, r2, r3⟩ := hR.put hL hx hp
            exact hn _ _ ⟨τ, μ', A', hk, r3, r1, by rw [r2]; exact hL⟩ (fun e => h5 (by
              unfold softO at e
              rw [Bool.or_eq_true] at e
              rcases e with e | e
              · exact e
              · exfalso
                unfold softC at e
                split at e
                · rename_i ho'
                  simp [isCall, ho'] at hncall
                · cases e))
          unfold Oper.wp
          rcases h1 with h1 | ⟨h1, rfl⟩
          · rw [h1]; exact hpost z h2
          · rw [h1]; exact hpost undef (by simp only [VR])
        · cases hk
      · cases hk
    · cases hk

theorem wanted_none {o : Oper} (h : o.guard = none) (y : Nat → Option Bool) : Region.wanted o y = true := by
  unfold Region.wanted
  rw [h]
theorem wanted_some {o : Oper} {j : Nat} {b : Bool} (h : o.guard = some (j, b)) (y : Nat → Option Bool) : Region.wanted o y = (y j == some b) := by
  unfold Region.wanted
  rw [h]

theorem guardK_ok {ops : Array Oper} {o : Oper} (hR : Rel P μ A σ a w) {k : Bool → St → Bool} (hk : guardK ops.toList o σ k = true) :
    ∃ τ, k (Region.wanted o (yielded ops a.tmps)) τ = true ∧ Rel P μ A τ a w ∧ τ.h = σ.h ∧ τ.nt = σ.nt := by
  unfold guardK at hk
  split at hk
  · rename_i hg
    exact ⟨σ, by rw [wanted_none hg]; exact hk, hR, rfl, rfl⟩
  · rename_i j want hg
    split at hk
    · rename_i oj hj
      split at hk
      · rename_i d hd
        split at hk
        · rename_i x hx
          simp only [Bool.cond_eq_ite, blt_iff] at hk
          split at hk
          · rename_i hlt
            have hv := hR.fr d _ hx
            simp only [VR, SR] at hv
            have htm : a.tmps[d]? = some (.bool x) := by
              rw [Array.getD_eq_getD_getElem?, Array.getElem?_eq_getElem (by rw [hR.nt]; exact hlt)] at hv
              rw [Array.getElem?_eq_getElem (by rw [hR.nt]; exact hlt)]
              simpa using hv
            have hy : yielded ops a.tmps j = some x := by
              have hj' : ops[j]? = some oj := by simpa using hj
              simp [yielded, hj', hd, htm]
            have hset : ∀ y, y = x → Rel P μ A { σ with fr := σ.fr.set d (.sc (.b y)) } a w := fun y hy => ⟨hR.defers, hR.nt, fun t u hu => by
              simp only [T.get_set] at hu
              split at hu
              · rename_i e
                subst e
                cases hu
                subst hy
                simp only [VR, SR]
                exact hv
              · exact hR.fr t u hu, hR.env⟩
            rw [wanted_some hg, hy]
            cases x with
            | true =>
              simp only [if_true] at hk
              refine ⟨_, ?_, hset true rfl, rfl, rfl⟩
              cases want <;> exact hk
            | false =>
              simp only [Bool.false_eq_true, if_false] at hk
              refine ⟨_, ?_, hset false rfl, rfl, rfl⟩
              cases want <;> exact hk
          · cases hk
        · rename_i hx
          simp only [Bool.cond_eq_ite, blt_iff] at hk
          split at hk
          · rename_i hlt
            have hv := hR.fr d _ hx
            simp only [VR] at hv
            obtain ⟨xs, hxs, hv⟩ := hv
            have hx0 : xs = [] := by
              have := VRs.length _ _ hv
              simpa using this.symm
            subst hx0
            have htm : a.tmps[d]? = some (.tuple #[]) := by
              rw [Array.getD_eq_getD_getElem?, Array.getElem?_eq_getElem (by rw [hR.nt]; exact hlt)] at hxs
              rw [Array.getElem?_eq_getElem (by rw [hR.nt]; exact hlt)]
              simpa using hxs
            have hy : yielded ops a.tmps j = none := by
              have hj' : ops[j]? = some oj := by simpa using hj
              simp [yielded, hj', hd, htm]
            rw [wanted_some hg, hy]
            exact ⟨σ, hk, hR, rfl, rfl⟩
          · cases hk
        · cases hk
      · cases hk
    · cases hk

theorem runOps_ok {Γ : FuncId → Option CT} (hΓ : ∀ g F, Γ g = some F → CTok P g F) {ops : Array Oper} {k : St → Bool} {Q : Exit → Act → World → Prop} :
    ∀ (l : List Oper) (i : Nat) (hl : ops.toList.drop i = l) {μ : Mu} {A : Nat → Prop} {σ : St} {a : Act} {w : World} (hR : Rel P μ A σ a w) (hk : runOps P Γ ops.toList l σ k = true) (hn : ∀ a' w', Post P μ A σ w k a' w' → Q .normal a' w'),
      wpOps P ops Q ((List.range ops.size).drop i) a w
  | [], i, hl, μ, A, σ, a, w, hR, hk, hn => by
    have : ops.size ≤ i := by
      have := congrArg List.length hl
      simp at this
      omega
    rw [List.drop_eq_nil_of_le (by simpa using this)]
    exact hn a w ⟨σ, μ, A, hk, rfl, hR, .refl hR.env⟩
  | o :: r, i, hl, μ, A, σ, a, w, hR, hk, hn => by
    have hlt : i < ops.size := by
      have := congrArg List.length hl
      simp at this
      omega
    have ho : ops[i]? = some o := by
      have : (ops.toList.drop i)[0]? = some o := by rw [hl]; rfl
      simpa using this
    have hr : ops.toList.drop (i + 1) = r := by
      have : (ops.toList.drop i).drop 1 = r := by rw [hl]; rfl
      simpa using this
    have hd : (List.range ops.size).drop i = i :: (List.range ops.size).drop (i + 1) := by
      rw [List.drop_eq_getElem_cons (by simpa using hlt)]
      simp
    rw [hd]
    simp only [wpOps, ho]
    unfold runOps at hk
    obtain ⟨τ, h1, h2, h3, h4⟩ := guardK_ok hR hk
    by_cases hw : Region.wanted o (yielded ops a.tmps) = true
    · rw [hw] at h1
      rw [if_pos hw]
      left
      refine runOp_ok (sf := fun _ => false) (fun g F h => (hΓ g F h).hard) h2 h1 fun a' w' hp _ => ?_
      obtain ⟨ρ, μ', A', p1, p2, p3, p4⟩ := hp
      refine runOps_ok hΓ r (i + 1) hr p3 p1 fun a'' w'' hp' => hn a'' w'' ?_
      obtain ⟨ρ', μ'', A'', q1, q2, q3, q4⟩ := hp'
      exact ⟨ρ', μ'', A'', q1, q2.trans (p2.trans h4), q3, by rw [← h3]; exact p4.trans q4⟩
    · rw [Bool.not_eq_true] at hw
      rw [hw] at h1
      rw [if_neg (by simp [hw])]
      simp only at h1
      split at h1
      · rename_i ρ hp
        obtain ⟨r1, r2, r3⟩ := h2.put (Leads.refl h2.env) (v := .tu []) (x := undef) (by simp only [VR]; exact ⟨[], rfl, by simp [VRs]⟩) hp
        refine runOps_ok hΓ r (i + 1) hr r1 h1 fun a'' w'' hp' => hn a'' w'' ?_
        obtain ⟨ρ', μ'', A'', q1, q2, q3, q4⟩ := hp'
        exact ⟨ρ', μ'', A'', q1, q2.trans (r3.trans h4), q3, by rw [← h3, ← r2]; exact q4⟩
      · cases h1

end
end Go.Proofs.YteionboacdkfjaaDoor.X
