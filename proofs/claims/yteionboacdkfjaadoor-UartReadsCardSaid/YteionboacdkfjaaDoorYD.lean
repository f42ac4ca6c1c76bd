/-
  X, part D: how the executor's values stand for the model's, and its operations that look at no memory.
-/
import Derived.Test.YteionboacdkfjaaDoorYC
import Derived.Laws.Tables
import Derived.Laws.Sem
namespace Go.Proofs.YteionboacdkfjaaDoor.X

/-- A block's place in the model's memory: the model's block, the cell where it begins, and (of a row of the call's own) how many cells there are from there on. -/
structure Place where
  b : Nat
  o : Nat
  fin : Nat

abbrev Mu := Nat → Place

def AA.conc (μ : Mu) (a : AA) : Addr := ⟨(μ a.id).b, (μ a.id).o + a.real, none⟩

def SR (μ : Mu) (A : Nat → Prop) : S → Value → Prop
  | .b x, v => v = .bool x
  | .i k x, v => v = .int k x
  | .s x, v => v = .string ⟨x.toArray⟩
  | .p none, v => v = .pointer none
  | .p (some a), v => A a.id ∧ v = .pointer (some (a.conc μ))
  | .sl none l c, v => l = 0 ∧ c = .k 0 ∧ v = .slice none 0 0
  | .sl (some a) l (.k c), v => A a.id ∧ l ≤ c ∧ ∃ ad, v = .slice (some ad) l c ∧ (c = 0 ∨ ad = a.conc μ)
  | .sl (some a) l (.g sz), v => A a.id ∧ ∃ ad c, l ≤ c ∧ v = .slice (some ad) l c ∧ (c = 0 ∨ (ad = a.conc μ ∧ a.real + c * sz ≤ (μ a.id).fin))
  | .fn f caps, v => (∀ a ∈ caps, A a.id) ∧ v = .func (.func f) #[] (caps.map fun a => Value.pointer (some (a.conc μ))).toArray
  | .nf, v => v = .nilFunc
  | .ifc t x, v => ∃ y, v = .iface t y ∧ SR μ A x y
  | .ni, v => v = .nilIface
  | .rt t g e, v => v = .iface t (.agg #[.pointer (some ⟨g, e, none⟩)])

def CR (μ : Mu) (A : Nat → Prop) (c : List Seg) (cells : Array Value) : Prop :=
  cells.size = csize c ∧ ∀ j s, cat c j = some s → ∃ y, cells[j]? = some y ∧ SR μ A s y

mutual
def VR (μ : Mu) (A : Nat → Prop) : V → Value → Prop
  | .sc s, x => SR μ A s x
  | .ag c, x => ∃ cells, x = .agg cells ∧ CR μ A c cells
  | .tu vs, x => ∃ xs : List Value, x = .tuple xs.toArray ∧ VRs μ A vs xs
  | .jk, _ => True
def VRs (μ : Mu) (A : Nat → Prop) : List V → List Value → Prop
  | [], [] => True
  | v :: r, x :: q => VR μ A v x ∧ VRs μ A r q
  | _, _ => False
end

theorem conc_mono {μ μ' : Mu} {A : Nat → Prop} {a : AA} (h : A a.id) (hm : ∀ i, A i → μ' i = μ i) : a.conc μ' = a.conc μ := by
  simp only [AA.conc, hm _ h]

theorem SR.mono {μ μ' : Mu} {A A' : Nat → Prop} (hm : ∀ i, A i → μ' i = μ i) (hn : ∀ i, A i → A' i) : ∀ (s : S) (x : Value), SR μ A s x → SR μ' A' s x
  | .b _, _, h => h
  | .i _ _, _, h => h
  | .s _, _, h => h
  | .p none, _, h => h
  | .p (some a), _, h => ⟨hn _ h.1, by rw [conc_mono h.1 hm]; exact h.2⟩
  | .sl none _ _, _, h => h
  | .sl (some a) _ (.k _), _, ⟨h1, h2, ad, h3, h4⟩ => ⟨hn _ h1, h2, ad, h3, by rw [conc_mono h1 hm]; exact h4⟩
  | .sl (some a) _ (.g _), _, ⟨h1, ad, c, h2, h3, h4⟩ => ⟨hn _ h1, ad, c, h2, h3, by rw [conc_mono h1 hm, hm _ h1]; exact h4⟩
  | .fn f caps, _, ⟨h1, h2⟩ => ⟨fun a ha => hn _ (h1 a ha), by
      rw [h2, List.map_congr_left (l := caps) (f := fun a => Value.pointer (some (a.conc μ))) (g := fun a => Value.pointer (some (a.conc μ'))) (fun a ha => by rw [conc_mono (h1 a ha) hm])]⟩
  | .nf, _, h => h
  | .ifc t x, _, ⟨y, h1, h2⟩ => ⟨y, h1, SR.mono hm hn x y h2⟩
  | .ni, _, h => h
  | .rt _ _ _, _, h => h

theorem CR.mono {μ μ' : Mu} {A A' : Nat → Prop} (hm : ∀ i, A i → μ' i = μ i) (hn : ∀ i, A i → A' i) {c : List Seg} {cells : Array Value} (h : CR μ A c cells) : CR μ' A' c cells :=
  ⟨h.1, fun j s hj => let ⟨y, h1, h2⟩ := h.2 j s hj; ⟨y, h1, h2.mono hm hn⟩⟩

mutual
theorem VR.mono {μ μ' : Mu} {A A' : Nat → Prop} (hm : ∀ i, A i → μ' i = μ i) (hn : ∀ i, A i → A' i) : ∀ (v : V) (x : Value), VR μ A v x → VR μ' A' v x
  | .sc s, x, h => by simp only [VR] at *; exact h.mono hm hn
  | .ag c, x, h => by simp only [VR] at *; obtain ⟨cells, h1, h2⟩ := h; exact ⟨cells, h1, h2.mono hm hn⟩
  | .tu vs, x, h => by simp only [VR] at *; obtain ⟨xs, h1, h2⟩ := h; exact ⟨xs, h1, VRs.mono hm hn vs xs h2⟩
  | .jk, _, _ => by simp only [VR]
theorem VRs.mono {μ μ' : Mu} {A A' : Nat → Prop} (hm : ∀ i, A i → μ' i = μ i) (hn : ∀ i, A i → A' i) : ∀ (v : List V) (x : List Value), VRs μ A v x → VRs μ' A' v x
  | [], [], _ => by simp only [VRs]
  | v :: r, x :: q, h => by simp only [VRs] at *; exact ⟨VR.mono hm hn v x h.1, VRs.mono hm hn r q h.2⟩
  | [], _ :: _, h => by simp only [VRs] at h
  | _ :: _, [], h => by simp only [VRs] at h
end

theorem VRs.length {μ : Mu} {A : Nat → Prop} : ∀ (v : List V) (x : List Value), VRs μ A v x → v.length = x.length
  | [], [], _ => rfl
  | v :: r, x :: q, h => by simp only [VRs] at h; simp [VRs.length r q h.2]
  | [], _ :: _, h => by simp only [VRs] at h
  | _ :: _, [], h => by simp only [VRs] at h

theorem VRs.get {μ : Mu} {A : Nat → Prop} : ∀ (v : List V) (x : List Value) (i : Nat) (a : V), VRs μ A v x → v[i]? = some a → ∃ y, x[i]? = some y ∧ VR μ A a y
  | [], _, i, a, _, hi => by simp at hi
  | v :: r, [], _, _, h, _ => by simp only [VRs] at h
  | v :: r, x :: q, 0, a, h, hi => by
    simp only [VRs] at h
    simp at hi
    subst hi
    exact ⟨x, by simp, h.1⟩
  | v :: r, x :: q, i + 1, a, h, hi => by
    simp only [VRs] at h
    obtain ⟨y, h1, h2⟩ := VRs.get r q i a h.2 (by simpa using hi)
    exact ⟨y, by simpa using h1, h2⟩

/-- A cell's value is one cell. -/
theorem SR.cells {μ : Mu} {A : Nat → Prop} {s : S} {x : Value} (h : SR μ A s x) : x.cells = #[x] ∧ x.oneCell' = true := by
  cases s with
  | p a => cases a <;> simp only [SR] at h <;> (first | (subst h; exact ⟨rfl, rfl⟩) | (obtain ⟨_, rfl⟩ := h; exact ⟨rfl, rfl⟩))
  | sl a l c =>
    cases a with
    | none => simp only [SR] at h; obtain ⟨_, _, rfl⟩ := h; exact ⟨rfl, rfl⟩
    | some a => cases c <;> simp only [SR] at h <;> (obtain ⟨_, h⟩ := h; (first | obtain ⟨_, _, rfl, _⟩ := h | obtain ⟨_, _, _, rfl, _⟩ := h) <;> exact ⟨rfl, rfl⟩)
  | fn f caps => simp only [SR] at h; obtain ⟨_, rfl⟩ := h; exact ⟨rfl, rfl⟩
  | ifc t v => simp only [SR] at h; obtain ⟨_, rfl, _⟩ := h; exact ⟨rfl, rfl⟩
  | b x => simp only [SR] at h; subst h; exact ⟨rfl, rfl⟩
  | i k x => simp only [SR] at h; subst h; exact ⟨rfl, rfl⟩
  | s x => simp only [SR] at h; subst h; exact ⟨rfl, rfl⟩
  | nf => simp only [SR] at h; subst h; exact ⟨rfl, rfl⟩
  | ni => simp only [SR] at h; subst h; exact ⟨rfl, rfl⟩
  | rt t g e => simp only [SR] at h; subst h; exact ⟨rfl, rfl⟩

theorem cat_one (v : S) (j : Nat) : cat [Seg.one v] j = if j = 0 then some v else none := by
  simp only [cat, Bool.cond_eq_ite, blt_iff, Seg.size]
  by_cases h : j = 0
  · subst h; simp [Seg.at]
  · rw [if_neg (by omega), if_neg h]

theorem content_CR {μ : Mu} {A : Nat → Prop} {v : V} {x : Value} {c : List Seg} (h : VR μ A v x) (hc : v.content = some c) : CR μ A c x.cells := by
  cases v with
  | sc s =>
    simp only [V.content, Option.some.injEq] at hc
    subst hc
    simp only [VR] at h
    rw [h.cells.1]
    refine ⟨rfl, fun j s' hj => ?_⟩
    rw [cat_one] at hj
    split at hj
    · rename_i h0; subst h0; simp at hj; subst hj; exact ⟨x, by simp, h⟩
    · cases hj
  | ag c' =>
    simp only [V.content, Option.some.injEq] at hc
    subst hc
    simp only [VR] at h
    obtain ⟨cells, rfl, h2⟩ := h
    exact h2
  | tu vs => simp [V.content] at hc
  | jk => simp [V.content] at hc

theorem constV_VR {μ : Mu} {A : Nat → Prop} {x : Value} {v : V} (h : constV x = some v) : VR μ A v x := by
  unfold constV at h
  split at h <;> simp at h <;> subst h <;> simp [VR, SR]

section
variable {P : Program}

theorem run_und {t : TypeId} {d : TypeDesc} (h : P.underlying t = some d) (w : World) : (underlying t).run P w = .ok d w := run_underlying h w

theorem sizeT_info {t : TypeId} {n : Nat} (h : sizeT P t = some n) : ∃ i, P.info? t = some i ∧ i.size = n := by
  unfold sizeT at h
  cases hi : P.info? t with
  | none => simp [hi] at h
  | some i => exact ⟨i, rfl, by simpa [hi] using h⟩

theorem run_size {t : TypeId} {n : Nat} (h : sizeT P t = some n) (w : World) : (sizeOf t).run P w = .ok n w := by
  obtain ⟨i, h1, h2⟩ := sizeT_info h
  simp [sizeOf, typeInfo, h1, h2]

theorem run_isAgg {t : TypeId} {b : Bool} (h : isAggT P t = some b) (w : World) : (isAgg t).run P w = .ok b w := by
  unfold isAggT at h
  unfold isAgg
  cases hu : P.underlying t with
  | none => simp [hu] at h
  | some d =>
    rw [Sem.run_bind, run_und hu w, Result.andThen_ok]
    cases d <;> simp [hu] at h <;> subst h <;> rfl

theorem chkS_SR {μ : Mu} {A : Nat → Prop} {s : S} {x : Value} (h : chkS s x = true) : SR μ A s x := by
  unfold chkS at h
  split at h <;> simp_all [SR, ikEq]

theorem chkAll_spec (c : List Seg) (cells : Array Value) : ∀ (k : Nat), chkAll c cells k = true → ∀ j, j < k → ∃ s y, cat c j = some s ∧ cells[j]? = some y ∧ chkS s y = true
  | 0, _, j, hj => by omega
  | k + 1, h, j, hj => by
    simp only [chkAll, Bool.and_eq_true] at h
    by_cases e : j = k
    · subst e
      have h2 := h.2
      split at h2
      · rename_i s y h3 h4; exact ⟨s, y, h3, h4, h2⟩
      · cases h2
    · exact chkAll_spec c cells k h.1 j (by omega)

theorem chkC_CR {μ : Mu} {A : Nat → Prop} {c : List Seg} {cells : Array Value} (h : chkC c cells = true) : CR μ A c cells := by
  simp only [chkC, Bool.and_eq_true, beq_iff] at h
  refine ⟨h.1, fun j s hj => ?_⟩
  obtain ⟨s', y, h1, h2, h3⟩ := chkAll_spec c cells _ h.2 j (cat_lt c j s hj)
  rw [hj] at h1
  cases h1
  exact ⟨y, h2, chkS_SR h3⟩

/-- A type's noughts. -/
theorem zeroV_spec {t : TypeId} {v : V} (h : zeroV P t = some v) : ∃ x, (∀ w, (zeroValue t).run P w = .ok x w) ∧ ∀ μ A, VR μ A v x := by
  unfold zeroV at h
  cases hi : P.info? t with
  | none => simp [hi] at h
  | some i =>
    simp only [hi, Option.bind_some] at h
    split at h
    · cases h
    · rename_i cells hz
      simp only [Bool.cond_eq_ite] at h
      split at h
      · rename_i hc
        simp at h
        subst h
        exact ⟨.agg cells, fun w => by simp [zeroValue, typeInfo, hi, hz], fun μ A => by simp only [VR]; exact ⟨cells, rfl, chkC_CR hc⟩⟩
      · cases h
    · rename_i v' _ hz
      simp only [Bool.cond_eq_ite] at h
      split at h
      · rename_i hc
        simp at h
        subst h
        exact ⟨v', fun w => by simp [zeroValue, typeInfo, hi, hz], fun μ A => by simp only [VR]; exact chkS_SR hc⟩
      · cases h

end
end Go.Proofs.YteionboacdkfjaaDoor.X
