/-
  UART, part K: the state at the head of the loop of 'UartOrder' is told anew.
-/
import Derived.Test.YteionboacdkfjaaUJ
namespace Go.Proofs.Yteionboacdkfjaa.X

theorem noGlob : nGlob Try.prog = 0 := by kernel_rfl

theorem rowOf_spec {h : H} {v : V} {c : Bool} {r : Option (Nat × Row)} (hr : rowOf h v = some (c, r)) (hc : c = true) :
    (v = .sc (.sl none 0 (.k 0)) ∧ r = none) ∨ ∃ a n m f, v = .sc (.sl (some a) n (.g 1)) ∧ h.m.get a.id = some ⟨[.run .u8 m f], true, false⟩ ∧ a.real + n ≤ m ∧ r = some (a.id, ⟨n, fun j => f (a.real + j)⟩) := by
  subst hc
  unfold rowOf at hr
  split at hr
  · simp only [Option.some.injEq, Prod.mk.injEq] at hr
    exact .inl ⟨rfl, hr.2.symm⟩
  · rename_i a n s
    split at hr
    · rename_i k m f hb
      simp only [Bool.cond_eq_ite, Bool.and_eq_true, ikEq_iff, beq_iff] at hr
      split at hr
      · rename_i hk
        obtain ⟨rfl, rfl⟩ := hk
        simp only [Option.some.injEq, Prod.mk.injEq, ble_iff] at hr
        exact .inr ⟨a, n, m, f, rfl, hb, hr.1, hr.2.symm⟩
      · cases hr
    · cases hr
  · cases hr

structure Proj (σ : St) (o : OS) : Prop where
  all : ∃ ia is v4 v5 c4 c5 r4 r5, σ.fr.get 0 = some (.sc (.sl (some ⟨ia, 0, none⟩) o.len (.k o.cap))) ∧ σ.fr.get 3 = some (.sc (.p (some ⟨is, 0, none⟩))) ∧ σ.fr.get 4 = some v4 ∧ σ.fr.get 5 = some v5 ∧ σ.fr.get 6 = some (.sc (.b o.ov)) ∧ σ.fr.get 7 = some (.sc (.i .i64 o.i)) ∧
    σ.h.m.get ia = some ⟨[.rows o.len 2 o.g], false, true⟩ ∧ σ.h.m.get is = some ⟨encU o.u, false, false⟩ ∧ rowOf σ.h v4 = some (c4, r4) ∧ rowOf σ.h v5 = some (c5, r5) ∧ c4 = true ∧ c5 = true ∧ apartR r4 r5 = true ∧ o.inn = r4.map (·.2) ∧ o.out = r5.map (·.2)

theorem projO_spec {σ : St} {c : Bool} {o : OS} (h : projO σ = some (c, o)) (hc : c = true) : Proj σ o := by
  subst hc
  unfold projO at h
  split at h
  · rename_i ia n cap is v4 v5 h0 h3 h4 h5
    split at h
    · rename_i ov ki i h6 h7
      split at h
      · rename_i m g cs c4 r4 c5 r5 b0 b1 e4 e5
        split at h
        · rename_i u hu
          simp only [Bool.cond_eq_ite, Bool.and_eq_true, ikEq_iff] at h
          split at h
          · rename_i hk
            obtain ⟨rfl, hap⟩ := hk
            simp only [Option.some.injEq, Prod.mk.injEq, Bool.and_eq_true, beq_iff] at h
            obtain ⟨⟨rfl, hc4, hc5⟩, rfl⟩ := h
            rw [decU_spec hu] at b1
            exact ⟨ia, is, v4, v5, c4, c5, r4, r5, h0, h3, h4, h5, h6, h7, b0, b1, e4, e5, hc4, hc5, hap, rfl, rfl⟩
          · cases h
        · cases h
      · cases h
    · cases h
  · cases h

/-- A row of the call's own, told anew from where its slice begins (or, of no capacity, from where its block does). -/
theorem row_told {μ : Mu} {A : Nat → Prop} {h : H} {w : World} (hr : HR μ A h w) {a : AA} {n m : Nat} {f : Nat → Int} (hb : h.m.get a.id = some ⟨[.run .u8 m f], true, false⟩) (hle : a.real + n ≤ m) {x : Value} (hx : VR μ A (.sc (.sl (some a) n (.g 1))) x) :
    ∃ r, r ≤ (μ a.id).fin ∧ r + n ≤ m ∧ (∀ k, k < n → f (r + k) = f (a.real + k)) ∧
      ∀ (μ' : Mu) (A' : Nat → Prop) (id : Nat), A' id → μ' id = ⟨(μ a.id).b, (μ a.id).o + r, (μ a.id).fin - r⟩ → VR μ' A' (.sc (.sl (some ⟨id, 0, none⟩) n (.g 1))) x := by
  simp only [VR, SR] at hx
  obtain ⟨_, ad, c, h1, rfl, h2⟩ := hx
  rcases h2 with rfl | ⟨h2, h3⟩
  · have hn : n = 0 := by omega
    subst hn
    refine ⟨0, Nat.zero_le _, by omega, fun k hk => by omega, fun μ' A' id hA hp => ?_⟩
    simp only [VR, SR]
    exact ⟨hA, ad, 0, Nat.le_refl _, rfl, .inl rfl⟩
  · refine ⟨a.real, by omega, hle, fun k _ => rfl, fun μ' A' id hA hp => ?_⟩
    simp only [VR, SR]
    refine ⟨hA, ad, c, h1, rfl, .inr ⟨?_, ?_⟩⟩
    · rw [h2]
      simp only [AA.conc, hp, AA.real]
      rfl
    · rw [hp]
      show 0 + c * 1 ≤ (μ a.id).fin - a.real
      omega

def rowB (r : Row) : Blk := ⟨[.run .u8 r.n r.f], true, false⟩

theorem canH_get (o : OS) (i : Nat) : (canH o).m.get i = if i = 0 then some ⟨[.rows o.len 2 o.g], false, true⟩ else if i = 1 then some ⟨encU o.u, false, false⟩ else if i = 2 then o.inn.map rowB else if i = 3 then o.out.map rowB else none := by
  have hb : base = 0 := rfl
  cases h1 : o.inn <;> cases h2 : o.out <;> simp only [canH, h1, h2, rowH, T.get_set, T.get_l, hb, Option.map_none, Option.map_some, rowB, Nat.zero_add]
  all_goals
    by_cases e0 : i = 0
    · subst e0; simp
    by_cases e1 : i = 1
    · subst e1; simp
    by_cases e2 : i = 2
    · subst e2; simp
    by_cases e3 : i = 3
    · subst e3; simp
    simp [e0, e1, e2, e3]

structure RI (μ : Mu) (A : Nat → Prop) (h : H) (x : Value) (row : Option Row) (j : Nat) (p : Place) : Prop where
  block : ∀ q, row = some q → ∃ m f r, h.m.get j = some ⟨[.run .u8 m f], true, false⟩ ∧ r ≤ (μ j).fin ∧ r + q.n ≤ m ∧ (∀ k, k < q.n → q.f k = f (r + k)) ∧ p = ⟨(μ j).b, (μ j).o + r, (μ j).fin - r⟩
  val : ∀ (μ' : Mu) (A' : Nat → Prop) (id : Nat), A' id → μ' id = p → VR μ' A' (rowV id row) x

theorem rinfo {μ : Mu} {A : Nat → Prop} {h : H} {w : World} (hr : HR μ A h w) {v : V} {x : Value} (hx : VR μ A v x) {r : Option (Nat × Row)} (hs : rowOf h v = some (true, r)) : ∃ j p, RI μ A h x (r.map (·.2)) j p ∧ ∀ k q, r = some (k, q) → k = j := by
  rcases rowOf_spec hs rfl with ⟨rfl, rfl⟩ | ⟨a, n, m, f, rfl, hb, hle, rfl⟩
  · exact ⟨0, ⟨0, 0, 0⟩, ⟨fun q hq => (by cases hq), fun μ' A' id _ _ => by simp only [VR, SR, Option.map_none, rowV] at hx ⊢; exact hx⟩, fun k q h => (by cases h)⟩
  · obtain ⟨r, h1, h2, h3, h4⟩ := row_told hr hb hle hx
    refine ⟨a.id, _, ⟨fun q hq => ?_, fun μ' A' id hA hp => h4 μ' A' id hA hp⟩, fun k q h => (by cases h; rfl)⟩
    cases hq
    exact ⟨m, f, r, hb, h1, h2, fun k hk => (h3 k hk).symm, rfl⟩

theorem can_rel {μ : Mu} {A : Nat → Prop} {σ : St} {a : Act} {w : World} {o : OS} (hR : Rel Try.prog μ A σ a w) (hp : Proj σ o) (hnt : σ.nt = 171) (hg : ∀ i j s, j < 2 → i < o.len → o.g i j = s → flatS s = true) :
    ∃ μ' A', Rel Try.prog μ' A' (can o) a w ∧ ∀ b off, foot μ' (canH o) b off → foot μ σ.h b off := by
  obtain ⟨ia, is, v4, v5, c4, c5, r4, r5, h0, h3, h4, h5, h6, h7, b0, b1, e4, e5, rfl, rfl, hap, hi, ho⟩ := hp.all
  have hr := hR.env.hr
  obtain ⟨j4, p4, i4, k4⟩ := rinfo hr (hR.fr 4 v4 h4) e4
  obtain ⟨j5, p5, i5, k5⟩ := rinfo hr (hR.fr 5 v5 h5) e5
  rw [← hi] at i4
  rw [← ho] at i5
  let μ' : Mu := fun i => if i = 0 then μ ia else if i = 1 then μ is else if i = 2 then p4 else p5
  let A' : Nat → Prop := fun i => i < 4
  let src : Nat → Nat := fun i => if i = 0 then ia else if i = 1 then is else if i = 2 then j4 else j5
  have part : ∀ i b', (canH o).m.get i = some b' → A' i ∧ ∃ b r, σ.h.m.get (src i) = some b ∧ PartOf μ A μ' A' (src i) b i b' r := by
    intro i b' hb
    rw [canH_get] at hb
    have rowPart : ∀ {row : Option Row} {j : Nat} {p : Place} {x : Value} {i : Nat}, RI μ A σ.h x row j p → μ' i = p → src i = j → row.map rowB = some b' → ∃ b r, σ.h.m.get (src i) = some b ∧ PartOf μ A μ' A' (src i) b i b' r := fun {row j p x i} hI hm hs hb => by
      cases row with
      | none => cases hb
      | some q =>
        cases hb
        obtain ⟨m, f, r, g1, g2, g3, g4, g5⟩ := hI.block q rfl
        rw [hs]
        refine ⟨_, r, g1, ⟨by rw [hm, g5], by rw [hm, g5], by rw [hm, g5], rfl, rfl, fun _ => g2, by simpa [rowB, csize, Seg.size] using g3, fun k s hk => ?_⟩⟩
        have hlt := cat_lt _ _ _ hk
        simp only [rowB, csize, Seg.size, Nat.add_zero] at hlt
        simp only [rowB, cat, Seg.size, Seg.at, Bool.cond_eq_ite, blt_iff] at hk ⊢
        rw [if_pos hlt] at hk
        rw [if_pos (by omega)]
        cases hk
        refine ⟨_, rfl, fun x hx => ?_⟩
        rw [g4 k hlt]
        exact hx
    by_cases q0 : i = 0
    · subst q0
      simp only [if_true] at hb
      cases hb
      refine ⟨by show 0 < 4; omega, _, 0, b0, ⟨rfl, rfl, rfl, rfl, rfl, fun h => (by cases h), by simp, fun k s hk => ?_⟩⟩
      refine ⟨s, by simpa using hk, fun x hx => flatS_SR s x ?_ hx⟩
      have hlt := cat_lt _ _ _ hk
      simp only [csize, Seg.size, Nat.add_zero] at hlt
      simp only [cat, Seg.size, Seg.at, Bool.cond_eq_ite, blt_iff] at hk
      rw [if_pos hlt] at hk
      cases hk
      exact hg (k / 2) (k % 2) _ (by omega) (by omega) rfl
    by_cases q1 : i = 1
    · subst q1
      simp only [if_true, Nat.one_ne_zero, if_false] at hb
      cases hb
      refine ⟨by show 1 < 4; omega, _, 0, b1, ⟨rfl, rfl, rfl, rfl, rfl, fun h => (by cases h), by simp, fun k s hk => ?_⟩⟩
      exact ⟨s, by simpa using hk, fun x hx => flatS_SR s x (flatC_cat _ rfl k s hk) hx⟩
    by_cases q2 : i = 2
    · subst q2
      simp only [q0, q1, if_false, if_true] at hb
      exact ⟨by show 2 < 4; omega, rowPart i4 rfl rfl hb⟩
    by_cases q3 : i = 3
    · subst q3
      simp only [q0, q1, q2, if_false, if_true] at hb
      exact ⟨by show 3 < 4; omega, rowPart i5 rfl rfl hb⟩
    · simp only [q0, q1, q2, q3, if_false] at hb
      cases hb
  have blkOf : ∀ i b', (canH o).m.get i = some b' → b'.ro = (if i = 0 then true else false) ∧ b'.grow = (if i = 0 ∨ i = 1 then false else true) ∧ i < 4 := by
    intro i b' hb
    rw [canH_get] at hb
    by_cases q0 : i = 0
    · subst q0; simp only [if_true] at hb; cases hb; exact ⟨rfl, rfl, by omega⟩
    by_cases q1 : i = 1
    · subst q1; simp only [if_true, Nat.one_ne_zero, if_false] at hb; cases hb; exact ⟨rfl, rfl, by omega⟩
    have rowQ : ∀ {row : Option Row}, row.map rowB = some b' → b'.ro = false ∧ b'.grow = true := fun {row} h => by
      cases row with
      | none => cases h
      | some q => cases h; exact ⟨rfl, rfl⟩
    by_cases q2 : i = 2
    · subst q2; simp only [q0, q1, if_false, if_true] at hb; obtain ⟨g1, g2⟩ := rowQ hb; exact ⟨g1, g2, by omega⟩
    by_cases q3 : i = 3
    · subst q3; simp only [q0, q1, q2, if_false, if_true] at hb; obtain ⟨g1, g2⟩ := rowQ hb; exact ⟨g1, g2, by omega⟩
    · simp only [q0, q1, q2, q3, if_false] at hb; cases hb
  have inj : ∀ i b i' b', (canH o).m.get i = some b → (canH o).m.get i' = some b' → src i = src i' → i = i' := by
    intro i b i' b' hb hb' hs
    obtain ⟨_, c, r, g1, g2⟩ := part i b hb
    obtain ⟨_, c', r', g3, g4⟩ := part i' b' hb'
    rw [hs, g3] at g1
    cases g1
    obtain ⟨t1, t2, t3⟩ := blkOf i b hb
    obtain ⟨t4, t5, t6⟩ := blkOf i' b' hb'
    have e1 : b.ro = b'.ro := by rw [g2.ro, g4.ro]
    have e2 : b.grow = b'.grow := by rw [g2.grow, g4.grow]
    rw [t1, t4] at e1
    rw [t2, t5] at e2
    have rows : ∀ x y, (canH o).m.get 2 = some x → (canH o).m.get 3 = some y → j4 ≠ j5 := fun x y hx hy => by
      rw [canH_get] at hx hy
      simp only [if_true, if_false, show ¬ ((2 : Nat) = 0) by omega, show ¬ ((2 : Nat) = 1) by omega, show ¬ ((3 : Nat) = 0) by omega, show ¬ ((3 : Nat) = 1) by omega, show ¬ ((3 : Nat) = 2) by omega] at hx hy
      rw [hi] at hx
      rw [ho] at hy
      cases r4 with
      | none => cases hx
      | some q4 =>
        cases r5 with
        | none => cases hy
        | some q5 =>
          have a1 := k4 q4.1 q4.2 rfl
          have a2 := k5 q5.1 q5.2 rfl
          simp only [apartR, Bool.not_eq_true'] at hap
          rw [← a1, ← a2]
          intro e
          rw [e, beq_iff.2 rfl] at hap
          cases hap
    by_cases e : i = i'
    · exact e
    · exfalso
      have h23 : (i = 2 ∧ i' = 3) ∨ (i = 3 ∧ i' = 2) := by
        by_cases z0 : i = 0
        · subst z0
          have : i' ≠ 0 := fun q => e q.symm
          simp [this] at e1
        by_cases z0' : i' = 0
        · subst z0'
          simp [z0] at e1
        by_cases z1 : i = 1
        · subst z1
          have : i' ≠ 1 := fun q => e q.symm
          simp [this, z0'] at e2
        by_cases z1' : i' = 1
        · subst z1'
          simp [z0, z1] at e2
        omega
      rcases h23 with ⟨rfl, rfl⟩ | ⟨rfl, rfl⟩
      · exact rows _ _ hb hb' hs
      · exact rows _ _ hb' hb hs.symm
  refine ⟨μ', A', ⟨hR.defers, by rw [hR.nt, hnt]; rfl, fun t v hv => ?_, ⟨hr.told src part inj, fun i hi => hi, fun g hg => by rw [noGlob] at hg; omega, Nat.zero_le _⟩⟩, fun b off hf => foot_told src part hf⟩
  have hA : ∀ i, i < 4 → A' i := fun i hi => hi
  simp only [can, canFr, T.get_set, T.get_l] at hv
  by_cases t7 : t = 7
  · subst t7
    rw [if_pos rfl] at hv
    cases hv
    have := hR.fr 7 _ h7
    simp only [VR, SR] at this ⊢
    exact this
  rw [if_neg t7] at hv
  by_cases t6 : t = 6
  · subst t6
    rw [if_pos rfl] at hv
    cases hv
    have := hR.fr 6 _ h6
    simp only [VR, SR] at this ⊢
    exact this
  rw [if_neg t6] at hv
  by_cases t5 : t = 5
  · subst t5
    rw [if_pos rfl] at hv
    cases hv
    exact i5.val μ' A' 3 (hA 3 (by omega)) rfl
  rw [if_neg t5] at hv
  by_cases t4 : t = 4
  · subst t4
    rw [if_pos rfl] at hv
    cases hv
    exact i4.val μ' A' 2 (hA 2 (by omega)) rfl
  rw [if_neg t4] at hv
  by_cases t3 : t = 3
  · subst t3
    rw [if_pos rfl] at hv
    cases hv
    have := hR.fr 3 _ h3
    simp only [VR, SR] at this ⊢
    exact ⟨hA 1 (by omega), this.2⟩
  rw [if_neg t3] at hv
  by_cases t0 : t = 0
  · subst t0
    rw [if_pos rfl] at hv
    cases hv
    have := hR.fr 0 _ h0
    simp only [VR, SR] at this ⊢
    exact ⟨hA 0 (by omega), this.2⟩
  rw [if_neg t0] at hv
  cases hv


end Go.Proofs.Yteionboacdkfjaa.X
