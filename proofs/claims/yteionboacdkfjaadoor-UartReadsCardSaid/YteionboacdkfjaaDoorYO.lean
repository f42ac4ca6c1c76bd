/-
  X, part O: contracts of functions that look at no memory of their caller's; what a statement's frame asks.
-/
import Derived.Test.YteionboacdkfjaaDoorYN
import Derived.RowKit3
namespace Go.Proofs.YteionboacdkfjaaDoor.X
set_option linter.unusedSectionVars false

/-- No address in it. -/
def flatS : S → Bool
  | .b _ | .i _ _ | .s _ | .nf | .ni => true
  | .p none => true
  | .sl none _ _ => true
  | .fn _ [] => true
  | .ifc _ v => flatS v
  | _ => false
noncomputable def flatSeg : Seg → Bool
  | .one v => flatS v
  | .run _ _ _ => true
  | .rows _ _ _ => false
noncomputable def flatC : List Seg → Bool
  | [] => true
  | s :: r => flatSeg s && flatC r
mutual
noncomputable def flatV : V → Bool
  | .sc s => flatS s
  | .ag c => flatC c
  | .tu vs => flatVs vs
  | .jk => true
noncomputable def flatVs : List V → Bool
  | [] => true
  | v :: r => flatV v && flatVs r
end

theorem flatS_SR {μ μ' : Mu} {A A' : Nat → Prop} : ∀ (s : S) (x : Value), flatS s = true → SR μ A s x → SR μ' A' s x
  | .b _, _, _, h => h
  | .i _ _, _, _, h => h
  | .s _, _, _, h => h
  | .nf, _, _, h => h
  | .ni, _, _, h => h
  | .p none, _, _, h => h
  | .sl none _ _, _, _, h => h
  | .fn f [], _, _, h => ⟨fun a ha => (by cases ha), h.2⟩
  | .ifc t v, _, hf, ⟨y, h1, h2⟩ => ⟨y, h1, flatS_SR v y hf h2⟩
  | .p (some _), _, hf, _ => by cases hf
  | .sl (some _) _ _, _, hf, _ => by cases hf
  | .fn _ (_ :: _), _, hf, _ => by cases hf

theorem flatC_cat : ∀ (c : List Seg), flatC c = true → ∀ j s, cat c j = some s → flatS s = true
  | [], _, j, s, h => by simp [cat] at h
  | g :: r, hf, j, s, h => by
    simp only [flatC, Bool.and_eq_true] at hf
    simp only [cat, Bool.cond_eq_ite] at h
    split at h
    · simp only [Option.some.injEq] at h
      subst h
      cases g with
      | one v => exact hf.1
      | run k n f => rfl
      | rows n m f => cases hf.1
    · exact flatC_cat r hf.2 _ s h

theorem flatC_CR {μ μ' : Mu} {A A' : Nat → Prop} {c : List Seg} {xs : Array Value} (hf : flatC c = true) (h : CR μ A c xs) : CR μ' A' c xs :=
  ⟨h.1, fun j s hj => let ⟨y, h1, h2⟩ := h.2 j s hj; ⟨y, h1, flatS_SR s y (flatC_cat c hf j s hj) h2⟩⟩

mutual
theorem flatV_VR {μ μ' : Mu} {A A' : Nat → Prop} : ∀ (v : V) (x : Value), flatV v = true → VR μ A v x → VR μ' A' v x
  | .sc s, x, hf, h => by simp only [VR, flatV] at *; exact flatS_SR s x hf h
  | .ag c, x, hf, h => by simp only [VR, flatV] at *; obtain ⟨xs, h1, h2⟩ := h; exact ⟨xs, h1, flatC_CR hf h2⟩
  | .tu vs, x, hf, h => by simp only [VR, flatV] at *; obtain ⟨xs, h1, h2⟩ := h; exact ⟨xs, h1, flatVs_VR vs xs hf h2⟩
  | .jk, _, _, _ => by simp only [VR]
theorem flatVs_VR {μ μ' : Mu} {A A' : Nat → Prop} : ∀ (v : List V) (x : List Value), flatVs v = true → VRs μ A v x → VRs μ' A' v x
  | [], [], _, _ => by simp only [VRs]
  | v :: r, x :: q, hf, h => by simp only [VRs, flatVs, Bool.and_eq_true] at *; exact ⟨flatV_VR v x hf.1 h.1, flatVs_VR r q hf.2 h.2⟩
  | [], _ :: _, _, h => by simp only [VRs] at h
  | _ :: _, [], _, h => by simp only [VRs] at h
end

/-- A value, or one of two. -/
inductive PV where
  | v (x : V)
  | if_ (c : Bool) (a b : PV)

noncomputable def PV.run : PV → (V → Bool) → Bool
  | .v x, k => k x
  | .if_ c a b, k => cond c (a.run k) (b.run k)
noncomputable def PV.val : PV → V
  | .v x => x
  | .if_ c a b => cond c a.val b.val

theorem PV.run_val (k : V → Bool) : ∀ p : PV, p.run k = k p.val
  | .v x => rfl
  | .if_ c a b => by cases c <;> simp [PV.run, PV.val, PV.run_val k a, PV.run_val k b]

/-- One value stands for all that another does, wherever. -/
def Sub (u v : V) : Prop := ∀ (μ : Mu) (A : Nat → Prop) (x : Value), VR μ A u x → ∀ (μ' : Mu) (A' : Nat → Prop), VR μ' A' v x

open Classical in
noncomputable def subB (v u : V) : Bool := decide (Sub u v)

theorem Sub.flat {v : V} (h : flatV v = true) : Sub v v := fun _ _ x hx _ _ => flatV_VR v x h hx
theorem subB_iff {v u : V} : subB v u = true ↔ Sub u v := by simp [subB]
theorem subB_flat {v : V} (h : flatV v = true) : subB v v = true := subB_iff.2 (Sub.flat h)

/-- The heap with nothing in it. -/
noncomputable def hN (P : Program) [Tb P] : H := ⟨.l, nGlob P, 0⟩

/-- A contract by a rule on the arguments alone: its condition, and the value. -/
noncomputable def closedCT (dec : List V → Option (Bool × PV)) : CT := fun args h k =>
  match dec args with
  | some (c, r) => cond c (r.run fun v => k v h) false
  | none => false

section
variable {P : Program} [Tb P] {μ : Mu} {A : Nat → Prop} {h : H} {w w' : World}

theorem Ext.mono {F G : Nat → Nat → Prop} (e : Ext F w w') (hFG : ∀ b o, F b o → G b o) : Ext G w w' :=
  ⟨e.os, e.tape, e.output, e.size, fun b hb hn => e.same b hb (fun o ho => hn o (hFG b o ho)), fun b c el fz hb => let ⟨c', h1, h2, h3⟩ := e.part b c el fz hb; ⟨c', h1, h2, fun o ho => h3 o (fun hf => ho (hFG b o hf))⟩, e.new⟩

theorem HR.kept (hr : HR μ A h w) (e : Ext (fun _ _ => False) w w') : HR μ A h w' :=
  ⟨hr.dom, fun i b hb j s hs => let ⟨x, h1, h2⟩ := hr.cells i b hb j s hs; ⟨x, e.cell h1 id, h2⟩,
    fun i b hb hro j hj => by
      obtain ⟨s, hs⟩ := cat_some b.c j hj
      obtain ⟨x, h1, _⟩ := hr.cells i b hb j s hs
      rw [e.frozen h1]
      exact hr.free i b hb hro j hj,
    fun i b hb hg => let ⟨h1, c, el, h2, h3⟩ := hr.grow i b hb hg; let ⟨c', h4, h5, _⟩ := e.part _ _ _ _ h2; ⟨h1, c', el, h4, by rw [h5]; exact h3⟩, hr.apart⟩

theorem Leads.kept (hE : Env P μ A h w) (e : Ext (fun _ _ => False) w w') : Leads P μ A h w μ A h w' :=
  ⟨⟨hE.hr.kept e, hE.bound, hE.glob, hE.lo, hE.gw.ext e (fun _ _ hf => hf.elim), hE.gf, Nat.le_trans hE.gs e.size⟩, ⟨hE.hr.kept e, fun _ h => h, fun _ _ => rfl, e.mono (fun _ _ h => h.elim), fun _ _ h => .inl h, rfl, fun _ _ => rfl⟩, Nat.le_refl _⟩

theorem envN (P : Program) [Tb P] (w : World) (hg : GW P w) (hs : nGlob P ≤ w.heap.size) : Env P (fun i => ⟨i, 0, 0⟩) (fun i => i < nGlob P) (hN P) w :=
  ⟨⟨fun i b h => (by cases h), fun i b h => (by cases h), fun i b h => (by cases h), fun i b h => (by cases h), fun i b j b' h => (by cases h)⟩, fun _ h => h, fun g hg => ⟨hg, rfl, rfl⟩, Nat.zero_le _, hg, fun b o ⟨i, k, hk, _⟩ => (by cases hk), hs⟩

theorem footN {μ : Mu} {b o : Nat} (hf : foot μ (hN P) b o) : False := by
  obtain ⟨i, k, hk, _⟩ := hf
  cases hk

theorem closedCT_ok {f : FuncId} {F : CT} (hF : CTok P f F) {dec : List V → Option (Bool × PV)}
    (hd : ∀ args c r, dec args = some (c, r) → c = true → flatVs args = true ∧ F args (hN P) (fun u _ => subB r.val u) = true) : CTok P f (closedCT dec) := by
  intro args h k vals w μ A hv hE hk
  unfold closedCT at hk
  split at hk
  · rename_i c r hdec
    simp only [Bool.cond_eq_ite] at hk
    split at hk
    · rename_i hc
      rw [PV.run_val] at hk
      obtain ⟨h1, h2⟩ := hd args c r hdec hc
      have hB := hF args (hN P) _ vals w _ _ (flatVs_VR _ _ h1 hv) (envN P w hE.gw hE.gs) h2
      intro o a next Q hn
      refine hB o a next Q fun x w' ⟨u, h', μ', A', g1, g2, g3⟩ => hn x w' ?_
      have hs : Sub u r.val := subB_iff.1 g1
      have e : Ext (fun _ _ => False) w w' := g3.step.ext.mono (fun _ _ hf => footN hf)
      exact ⟨r.val, h, μ, A, hk, hs _ _ _ g2 _ _, Leads.kept hE e⟩
    · cases hk
  · cases hk

/-- A contract that looks at no memory changes none. -/
theorem closedCT_hard {f : FuncId} {dec : List V → Option (Bool × PV)} (hF : CTok P f (closedCT dec)) (hd : ∀ args c r, dec args = some (c, r) → flatVs args = true ∧ flatV r.val = true) : CTokE P true f (closedCT dec) := by
  intro args h k vals w μ A hv hE hk
  unfold closedCT at hk
  split at hk
  · rename_i c r hdec
    simp only [Bool.cond_eq_ite] at hk
    split at hk
    · rename_i hc
      rw [PV.run_val] at hk
      obtain ⟨h1, h2⟩ := hd args c r hdec
      have hB := hF args (hN P) (fun u _ => subB r.val u) vals w _ _ (flatVs_VR _ _ h1 hv) (envN P w hE.gw hE.gs) (by
        unfold closedCT
        rw [hdec]
        simp only [hc, cond_true, PV.run_val]
        exact subB_flat h2)
      intro o a next Q hn
      refine hB o a next Q fun x w' ⟨u, h', μ', A', g1, g2, g3⟩ => hn x w' ?_
      have hs : Sub u r.val := subB_iff.1 g1
      have e : Ext (fun _ _ => False) w w' := g3.step.ext.mono (fun _ _ hf => footN hf)
      exact ⟨r.val, h, μ, A, hk, hs _ _ _ g2 _ _, Leads.kept hE e, fun _ => e⟩
    · cases hk
  · cases hk

/-- Nothing of what was there has changed. -/
theorem Ext.grown (e : Ext (fun _ _ => False) w w') : RowKit.Grown w w' := by
  refine ⟨⟨e.os, e.output, fun i hi => ?_⟩, fun a => ?_, e.size⟩
  · have hs := e.same i hi (fun _ h => h)
    cases hh : w.heap[i]? with
    | none => rw [hs, hh]
    | some x =>
      rw [hs, hh]
      cases x with
      | cells c t fr => exact ⟨rfl, rfl, rfl, fun _ _ => rfl⟩
      | map es cl => exact .inr ⟨rfl, rfl⟩
      | _ => rfl
  · unfold World.frozen?
    by_cases hi : a.block < w.heap.size
    · rw [e.same _ hi (fun _ h => h)]
    · have hn : w.heap[a.block]? = none := Array.getElem?_eq_none (by omega)
      rw [hn]
      cases hx : w'.heap[a.block]? with
      | none => rfl
      | some x =>
        obtain ⟨c, el, rfl⟩ := e.new _ _ (by omega) hx
        simp

end
end Go.Proofs.YteionboacdkfjaaDoor.X
