/-
  X, part Q: a heap told anew: its blocks are parts of the blocks that were told before; a loop by an invariant.
-/
import Derived.Test.YteionboacdkfjaaDoorYP
namespace Go.Proofs.YteionboacdkfjaaDoor.X
set_option linter.unusedSectionVars false

/-- The block b' at p' is the part of the block b at p that begins r cells on. -/
structure PartOf (μ : Mu) (A : Nat → Prop) (μ' : Mu) (A' : Nat → Prop) (j : Nat) (b : Blk) (i : Nat) (b' : Blk) (r : Nat) : Prop where
  at_ : (μ' i).b = (μ j).b
  o : (μ' i).o = (μ j).o + r
  fin : (μ' i).fin = (μ j).fin - r
  ro : b'.ro = b.ro
  grow : b'.grow = b.grow
  fits : b.grow = true → r ≤ (μ j).fin
  size : r + csize b'.c ≤ csize b.c
  cells : ∀ k s, cat b'.c k = some s → ∃ s0, cat b.c (r + k) = some s0 ∧ ∀ x, SR μ A s0 x → SR μ' A' s x

section
variable {P : Program} [Tb P] {μ : Mu} {A : Nat → Prop} {h : H} {w : World}

theorem HR.told (hr : HR μ A h w) {h' : H} {μ' : Mu} {A' : Nat → Prop} (src : Nat → Nat) (hs : ∀ i b', h'.m.get i = some b' → A' i ∧ ∃ b r, h.m.get (src i) = some b ∧ PartOf μ A μ' A' (src i) b i b' r)
    (inj : ∀ i b i' b', h'.m.get i = some b → h'.m.get i' = some b' → src i = src i' → i = i') : HR μ' A' h' w := by
  refine ⟨fun i b hb => (hs i b hb).1, fun i b' hb j s hj => ?_, fun i b' hb hro j hj => ?_, fun i b' hb hg => ?_, fun i b' i' c' hb hc hne hro hl hl' => ?_⟩
  · obtain ⟨_, b, r, h1, p⟩ := hs i b' hb
    obtain ⟨s0, q1, q2⟩ := p.cells j s hj
    obtain ⟨x, x1, x2⟩ := hr.cells _ b h1 _ s0 q1
    exact ⟨x, by rw [p.at_, p.o, Nat.add_assoc]; exact x1, q2 x x2⟩
  · obtain ⟨_, b, r, h1, p⟩ := hs i b' hb
    rw [p.at_, p.o, Nat.add_assoc]
    exact hr.free _ b h1 (by rw [← p.ro]; exact hro) _ (by have := p.size; omega)
  · obtain ⟨_, b, r, h1, p⟩ := hs i b' hb
    have hg' : b.grow = true := by rw [← p.grow]; exact hg
    obtain ⟨g1, c, el, g2, g3⟩ := hr.grow _ b h1 hg'
    have := p.fits hg'
    exact ⟨by rw [p.ro]; exact g1, c, el, by rw [p.at_]; exact g2, by rw [p.o, p.fin]; omega⟩
  · obtain ⟨_, b, r, h1, p⟩ := hs i b' hb
    obtain ⟨_, c, r', h2, p'⟩ := hs i' c' hc
    have live : ∀ {b b' : Blk} {r : Nat}, r + csize b'.c ≤ csize b.c → b'.grow = b.grow → b'.live → b.live := fun {b b' r} hsz hg hl => by
      rcases hl with q | q
      · exact .inl (by omega)
      · exact .inr (by rw [← hg]; exact q)
    rcases hr.apart _ b _ c h1 h2 (fun e => hne (inj i b' i' c' hb hc e)) (by rw [← p.ro, ← p'.ro]; exact hro) (live p.size p.grow hl) (live p'.size p'.grow hl') with q | q | q
    · exact .inl (by rw [p.at_, p'.at_]; exact q)
    · exact .inr (.inl ⟨by rw [p.o, p'.o]; have := p.size; omega, by rw [p.grow]; exact q.2⟩)
    · exact .inr (.inr ⟨by rw [p.o, p'.o]; have := p'.size; omega, by rw [p'.grow]; exact q.2⟩)

theorem foot_told {h' : H} {μ' : Mu} {A' : Nat → Prop} (src : Nat → Nat) (hs : ∀ i b', h'.m.get i = some b' → A' i ∧ ∃ b r, h.m.get (src i) = some b ∧ PartOf μ A μ' A' (src i) b i b' r) {b o : Nat} (hf : foot μ' h' b o) : foot μ h b o := by
  obtain ⟨i, k, hk, hro, h1, h2, h3⟩ := hf
  obtain ⟨_, c, r, g1, p⟩ := hs i k hk
  refine ⟨src i, c, g1, by rw [← p.ro]; exact hro, by rw [← p.at_]; exact h1, by rw [p.o] at h2; omega, ?_⟩
  rcases h3 with q | q
  · exact .inl (by rw [← p.grow]; exact q)
  · exact .inr (by rw [p.o] at q; have := p.size; omega)

/-- A loop, by what holds at the head of each round: a round ends the loop, or comes to the head with less to do. -/
theorem LoopAt.inv {c : Code} {Q : Exit → Act → World → Prop} (I : Nat → Act → World → Prop) (round : ∀ n a w, I n a w → c.wp P (Exit.then (fun a' w' => ∃ m, m < n ∧ I m a' w') Q) a w) : ∀ n a w, I n a w → LoopAt P c Q a w := by
  intro n
  induction n using Nat.strongRecOn with
  | _ n ih =>
    intro a w hI
    refine LoopAt.round (wp_mono (round n a w hI) fun e a' w' hq => ?_)
    cases e with
    | normal =>
      obtain ⟨m, hm, hI'⟩ := hq
      exact ih m hm a' w' hI'
    | exit id => exact hq
    | goto l => exact hq
    | ret => exact hq
    | panic ch => exact hq
    | outgrown => exact hq

end
end Go.Proofs.YteionboacdkfjaaDoor.X
