/-
  X, part I: how the executor's heap stands for the model's memory; loads, stores, new blocks.
-/
import Derived.Test.YteionboacdkfjaaDoorYH
import Derived.Laws.Cells
namespace Go.Proofs.YteionboacdkfjaaDoor.X
set_option linter.unusedSectionVars false

def Apart (p : Place) (b : Blk) (q : Place) (b' : Blk) : Prop :=
  p.b ≠ q.b ∨ (p.o + csize b.c ≤ q.o ∧ b.grow = false) ∨ (q.o + csize b'.c ≤ p.o ∧ b'.grow = false)

def Blk.live (b : Blk) : Prop := 0 < csize b.c ∨ b.grow = true

/-- The heap 'h' is what stands in the world's memory, its block i at the place 'μ i'; 'A': the numbers that a value may name. -/
structure HR (μ : Mu) (A : Nat → Prop) (h : H) (w : World) : Prop where
  dom : ∀ id b, h.m.get id = some b → A id
  cells : ∀ id b, h.m.get id = some b → ∀ j s, cat b.c j = some s → ∃ x, w.cell? ⟨(μ id).b, (μ id).o + j, none⟩ = some x ∧ SR μ A s x
  free : ∀ id b, h.m.get id = some b → b.ro = false → ∀ j, j < csize b.c → w.frozen? ⟨(μ id).b, (μ id).o + j, none⟩ = false
  grow : ∀ id b, h.m.get id = some b → b.grow = true → b.ro = false ∧ ∃ c el, w.heap[(μ id).b]? = some (.cells c el (0, 0)) ∧ (μ id).o + (μ id).fin ≤ c.size
  apart : ∀ i b j b', h.m.get i = some b → h.m.get j = some b' → i ≠ j → (b.ro = false ∨ b'.ro = false) → b.live → b'.live → Apart (μ i) b (μ j) b'

/-- The cells of the model's memory that are the heap's to write. -/
def foot (μ : Mu) (h : H) (b o : Nat) : Prop :=
  ∃ id k, h.m.get id = some k ∧ k.ro = false ∧ (μ id).b = b ∧ (μ id).o ≤ o ∧ (k.grow = true ∨ o < (μ id).o + csize k.c)

structure Ext (F : Nat → Nat → Prop) (w w' : World) : Prop where
  os : w'.os = w.os
  tape : w'.tape = w.tape
  output : w'.output = w.output
  size : w.heap.size ≤ w'.heap.size
  same : ∀ b, b < w.heap.size → (∀ o, ¬ F b o) → w'.heap[b]? = w.heap[b]?
  part : ∀ b c el fz, w.heap[b]? = some (.cells c el fz) → ∃ c', w'.heap[b]? = some (.cells c' el fz) ∧ c'.size = c.size ∧ ∀ o, ¬ F b o → c'[o]? = c[o]?
  new : ∀ b x, w.heap.size ≤ b → w'.heap[b]? = some x → ∃ c el, x = .cells c el (0, 0)

structure Step (μ : Mu) (A : Nat → Prop) (h : H) (w : World) (μ' : Mu) (A' : Nat → Prop) (h' : H) (w' : World) : Prop where
  hr : HR μ' A' h' w'
  sub : ∀ i, A i → A' i
  agree : ∀ i, A i → μ' i = μ i
  ext : Ext (foot μ h) w w'
  foot : ∀ b o, foot μ' h' b o → foot μ h b o ∨ w.heap.size ≤ b
  lo : h'.lo = h.lo
  keep : ∀ i, i < h.lo → h'.m.get i = h.m.get i

theorem lt_of_some {α : Type} {a : Array α} {i : Nat} {x : α} (h : a[i]? = some x) : i < a.size := by
  rcases Nat.lt_or_ge i a.size with h' | h'
  · exact h'
  · rw [Array.getElem?_eq_none h'] at h; cases h

theorem Ext.refl (F : Nat → Nat → Prop) (w : World) : Ext F w w := ⟨rfl, rfl, rfl, Nat.le_refl _, fun _ _ _ => rfl, fun _ c _ _ h => ⟨c, h, rfl, fun _ _ => rfl⟩, fun b x hb h => absurd (lt_of_some h) (by omega)⟩

theorem Ext.drew {F : Nat → Nat → Prop} {w w' : World} (h : Ext F w w') (d : Nat) : Ext F w { w' with drawn := d } := ⟨h.os, h.tape, h.output, h.size, h.same, h.part, h.new⟩

theorem Ext.trans {F G : Nat → Nat → Prop} {a b c : World} (h : Ext F a b) (k : Ext G b c) (hG : ∀ x o, G x o → F x o ∨ a.heap.size ≤ x) : Ext F a c := by
  refine ⟨k.os.trans h.os, k.tape.trans h.tape, k.output.trans h.output, Nat.le_trans h.size k.size, fun x hx hF => ?_, fun x q el fz hq => ?_, fun x ob hx hob => ?_⟩
  · rw [k.same x (Nat.lt_of_lt_of_le hx h.size) (fun o ho => (hG x o ho).elim (hF o) (fun h => by omega)), h.same x hx hF]
  · obtain ⟨c1, h1, h2, h3⟩ := h.part x q el fz hq
    obtain ⟨c2, k1, k2, k3⟩ := k.part x c1 el fz h1
    have hlt := lt_of_some hq
    exact ⟨c2, k1, k2.trans h2, fun o ho => (k3 o (fun hg => (hG x o hg).elim ho (fun h => by omega))).trans (h3 o ho)⟩
  · by_cases hlt : x < b.heap.size
    · obtain ⟨q, el, e⟩ := h.new x _ hx (Array.getElem?_eq_getElem hlt)
      obtain ⟨c2, k1, _⟩ := k.part x q el (0, 0) (by rw [Array.getElem?_eq_getElem hlt, e])
      rw [k1] at hob
      cases hob
      exact ⟨c2, el, rfl⟩
    · exact k.new x ob (by omega) hob

theorem cell_cells {w : World} {b o : Nat} {x : Value} (h : w.cell? ⟨b, o, none⟩ = some x) : ∃ c el fz, w.heap[b]? = some (.cells c el fz) ∧ c[o]? = some x := by
  unfold World.cell? at h
  split at h
  · rename_i c e f hb
    exact ⟨c, e, f, hb, by simpa using h⟩
  · cases h

theorem cell_of {w : World} {b o : Nat} {c : Array Value} {el : TypeId} {fz : Nat × Nat} (h : w.heap[b]? = some (.cells c el fz)) : w.cell? ⟨b, o, none⟩ = c[o]? := by
  simp [World.cell?, h]
theorem frozen_of {w : World} {b o : Nat} {c : Array Value} {el : TypeId} {fz : Nat × Nat} (h : w.heap[b]? = some (.cells c el fz)) : w.frozen? ⟨b, o, none⟩ = (decide (fz.1 ≤ o) && decide (o < fz.2)) := by
  simp [World.frozen?, h]

theorem Ext.cell {F : Nat → Nat → Prop} {w w' : World} (h : Ext F w w') {b o : Nat} {x : Value} (hc : w.cell? ⟨b, o, none⟩ = some x) (hF : ¬ F b o) : w'.cell? ⟨b, o, none⟩ = some x := by
  obtain ⟨c, el, fz, h1, h2⟩ := cell_cells hc
  obtain ⟨c', h3, _, h4⟩ := h.part b c el fz h1
  rw [cell_of h3, h4 o hF, h2]
theorem Ext.frozen {F : Nat → Nat → Prop} {w w' : World} (h : Ext F w w') {b o : Nat} {x : Value} (hc : w.cell? ⟨b, o, none⟩ = some x) : w'.frozen? ⟨b, o, none⟩ = w.frozen? ⟨b, o, none⟩ := by
  obtain ⟨c, el, fz, h1, h2⟩ := cell_cells hc
  obtain ⟨c', h3, _, h4⟩ := h.part b c el fz h1
  rw [frozen_of h3, frozen_of h1]

theorem Step.refl {μ : Mu} {A : Nat → Prop} {h : H} {w : World} (hr : HR μ A h w) : Step μ A h w μ A h w :=
  ⟨hr, fun _ h => h, fun _ _ => rfl, .refl _ _, fun _ _ h => .inl h, rfl, fun _ _ => rfl⟩

theorem Step.trans {μ μ' μ'' : Mu} {A A' A'' : Nat → Prop} {h h' h'' : H} {w w' w'' : World} (s : Step μ A h w μ' A' h' w') (t : Step μ' A' h' w' μ'' A'' h'' w'') : Step μ A h w μ'' A'' h'' w'' :=
  ⟨t.hr, fun i hi => t.sub i (s.sub i hi), fun i hi => (t.agree i (s.sub i hi)).trans (s.agree i hi), s.ext.trans t.ext s.foot,
    fun b o hf => (t.foot b o hf).elim (s.foot b o) (fun h => .inr (Nat.le_trans s.ext.size h)), t.lo.trans s.lo, fun i hi => (t.keep i (by rw [s.lo]; exact hi)).trans (s.keep i hi)⟩

/-- Another count of draws. -/
theorem HR.drew {μ : Mu} {A : Nat → Prop} {h : H} {w : World} (hr : HR μ A h w) (d : Nat) : HR μ A h { w with drawn := d } :=
  ⟨hr.dom, hr.cells, hr.free, hr.grow, hr.apart⟩
theorem Step.drew {μ μ' : Mu} {A A' : Nat → Prop} {h h' : H} {w w' : World} (s : Step μ A h w μ' A' h' w') (d : Nat) : Step μ A h w μ' A' h' { w' with drawn := d } :=
  ⟨s.hr.drew d, s.sub, s.agree, s.ext.drew d, s.foot, s.lo, s.keep⟩

/-- More numbers may be named. -/
theorem HR.more {μ : Mu} {A A' : Nat → Prop} {h : H} {w : World} (hr : HR μ A h w) (hA : ∀ i, A i → A' i) : HR μ A' h w :=
  ⟨fun i b h => hA i (hr.dom i b h), fun i b h j s hs => let ⟨x, h1, h2⟩ := hr.cells i b h j s hs; ⟨x, h1, h2.mono (fun _ _ => rfl) hA⟩, hr.free, hr.grow, hr.apart⟩

/-- The heap's own count of numbers and its mark play no part. -/
theorem HR.nx {μ : Mu} {A : Nat → Prop} {h h' : H} {w : World} (hr : HR μ A h w) (hm : ∀ i, h'.m.get i = h.m.get i) : HR μ A h' w :=
  ⟨fun i b h => hr.dom i b (by rw [← hm]; exact h), fun i b h => hr.cells i b (by rw [← hm]; exact h), fun i b h => hr.free i b (by rw [← hm]; exact h), fun i b h => hr.grow i b (by rw [← hm]; exact h),
    fun i b j b' h1 h2 => hr.apart i b j b' (by rw [← hm]; exact h1) (by rw [← hm]; exact h2)⟩

def upd (μ : Mu) (id : Nat) (p : Place) : Mu := fun i => if i = id then p else μ i

section
variable {P : Program} [Tb P] {μ : Mu} {A : Nat → Prop} {h : H} {w : World}

theorem HR.block_lt (hr : HR μ A h w) {id : Nat} {b : Blk} (hb : h.m.get id = some b) (hne : b.live) : (μ id).b < w.heap.size := by
  rcases hne with hne | hne
  · obtain ⟨s, hs⟩ := cat_some b.c 0 hne
    obtain ⟨x, h1, _⟩ := hr.cells id b hb 0 s hs
    obtain ⟨c, el, fz, h2, _⟩ := cell_cells h1
    exact lt_of_some h2
  · obtain ⟨_, c, el, h2, _⟩ := hr.grow id b hb hne
    exact lt_of_some h2

/-- A new block. -/
theorem step_alloc (hr : HR μ A h w) {id : Nat} (hid : ¬ A id) (hlo : h.lo ≤ id) {c : List Seg} {cells rest : Array Value} (hc : CR μ A c cells) (el : TypeId) (g : Bool) (fin : Nat) (hfin : fin ≤ cells.size + rest.size) (nx : Nat) :
    Step μ A h w (upd μ id ⟨w.heap.size, 0, fin⟩) (fun i => A i ∨ i = id) { m := h.m.set id ⟨c, g, false⟩, nx := nx, lo := h.lo } (w.alloc (.cells (cells ++ rest) el)) := by
  have hne : ∀ i, A i → i ≠ id := fun i hi e => hid (e ▸ hi)
  have hmu : ∀ i, A i → upd μ id ⟨w.heap.size, 0, fin⟩ i = μ i := fun i hi => by simp [upd, hne i hi]
  have hself : upd μ id ⟨w.heap.size, 0, fin⟩ id = ⟨w.heap.size, 0, fin⟩ := by simp [upd]
  have hnew : (w.alloc (.cells (cells ++ rest) el)).heap[w.heap.size]? = some (.cells (cells ++ rest) el) := by
    show (w.heap.push _)[w.heap.size]? = _
    simp
  have hold : ∀ b, b < w.heap.size → (w.alloc (.cells (cells ++ rest) el)).heap[b]? = w.heap[b]? := fun b hb => by
    show (w.heap.push _)[b]? = _
    rw [Array.getElem?_push, if_neg (by omega)]
  have hget : ∀ i, (h.m.set id ⟨c, g, false⟩).get i = if i = id then some ⟨c, g, false⟩ else h.m.get i := fun i => T.get_set _ _ _ _
  have hext : Ext (foot μ h) w (w.alloc (.cells (cells ++ rest) el)) :=
    ⟨rfl, rfl, rfl, by simp, fun b hb _ => hold b hb, fun b q e fz hq => ⟨q, by rw [hold b (lt_of_some hq)]; exact hq, rfl, fun _ _ => rfl⟩, fun b x hb hx => by
      have hlt : b < (w.heap.push (.cells (cells ++ rest) el)).size := lt_of_some hx
      rw [Array.size_push] at hlt
      have e : b = w.heap.size := by omega
      subst e
      rw [hnew] at hx
      cases hx
      exact ⟨_, _, rfl⟩⟩
  have mono : ∀ s x, SR μ A s x → SR (upd μ id ⟨w.heap.size, 0, fin⟩) (fun i => A i ∨ i = id) s x := fun s x hs => hs.mono hmu (fun i hi => .inl hi)
  refine ⟨⟨?_, ?_, ?_, ?_, ?_⟩, fun i hi => .inl hi, hmu, hext, ?_, rfl, ?_⟩
  · intro i b hb
    simp only [hget] at hb
    split at hb
    · rename_i e; exact .inr e
    · exact .inl (hr.dom i b hb)
  · intro i b hb j s hs
    simp only [hget] at hb
    split at hb
    · rename_i e
      subst e
      cases hb
      obtain ⟨y, h1, h2⟩ := hc.2 j s hs
      refine ⟨y, ?_, mono _ _ h2⟩
      rw [hself, cell_of hnew]
      rw [Nat.zero_add, Array.getElem?_append_left (lt_of_some h1)]
      exact h1
    · obtain ⟨x, h1, h2⟩ := hr.cells i b hb j s hs
      refine ⟨x, ?_, mono _ _ h2⟩
      rw [hmu i (hr.dom i b hb)]
      obtain ⟨q, e, fz, h3, h4⟩ := cell_cells h1
      rw [cell_of (by rw [hold _ (lt_of_some h3)]; exact h3), h4]
  · intro i b hb hro j hj
    simp only [hget] at hb
    split at hb
    · rename_i e
      subst e
      rw [hself, frozen_of hnew]
      simp
    · rw [hmu i (hr.dom i b hb)]
      obtain ⟨s, hs⟩ := cat_some b.c j hj
      obtain ⟨x, h1, _⟩ := hr.cells i b hb j s hs
      rw [hext.frozen h1]
      exact hr.free i b hb hro j hj
  · intro i b hb hgr
    simp only [hget] at hb
    split at hb
    · rename_i e
      subst e
      cases hb
      exact ⟨rfl, cells ++ rest, el, by rw [hself]; exact hnew, by rw [hself]; simpa using hfin⟩
    · obtain ⟨h1, q, e, h2, h3⟩ := hr.grow i b hb hgr
      exact ⟨h1, q, e, by rw [hmu i (hr.dom i b hb), hold _ (lt_of_some h2)]; exact h2, by rw [hmu i (hr.dom i b hb)]; exact h3⟩
  · intro i b j b' hb hb' hij hro hl hl'
    simp only [hget] at hb hb'
    split at hb
    · rename_i e
      split at hb'
      · rename_i e'; exact absurd (e.trans e'.symm) hij
      · subst e
        rw [hself, hmu j (hr.dom j b' hb')]
        have := hr.block_lt hb' hl'
        exact .inl (by show w.heap.size ≠ _; omega)
    · split at hb'
      · rename_i e'
        subst e'
        rw [hself, hmu i (hr.dom i b hb)]
        have := hr.block_lt hb hl
        exact .inl (by show _ ≠ w.heap.size; omega)
      · rw [hmu i (hr.dom i b hb), hmu j (hr.dom j b' hb')]
        exact hr.apart i b j b' hb hb' hij hro hl hl'
  · intro b o hf
    obtain ⟨i, k, hk, hro, h1, h2, h3⟩ := hf
    simp only [hget] at hk
    split at hk
    · rename_i e
      subst e
      rw [hself] at h1
      exact .inr (by simp only at h1; omega)
    · have := hr.dom i k hk
      rw [hmu i this] at h1 h2 h3
      exact .inl ⟨i, k, hk, hro, h1, h2, h3⟩
  · intro i hi
    simp only [hget]
    rw [if_neg (by omega)]

/-! Writing. -/
structure Wrote (w w' : World) (b o : Nat) (vs : List Value) : Prop where
  os : w'.os = w.os
  tape : w'.tape = w.tape
  output : w'.output = w.output
  size : w'.heap.size = w.heap.size
  other : ∀ k, k ≠ b → w'.heap[k]? = w.heap[k]?
  blk : ∀ c el fz, w.heap[b]? = some (.cells c el fz) → ∃ c', w'.heap[b]? = some (.cells c' el fz) ∧ c'.size = c.size ∧ ∀ j, c'[j]? = if o ≤ j ∧ j < o + vs.length ∧ j < c.size then vs[j - o]? else c[j]?

theorem add_at (b o i : Nat) : (⟨b, o, none⟩ : Addr).add i = ⟨b, o + i, none⟩ := by
  unfold Addr.add
  split
  · rename_i h; simp [h]
  · rfl

theorem setCell_heap (w : World) (b o : Nat) (v : Value) : (∀ k, k ≠ b → (w.setCell ⟨b, o, none⟩ v).heap[k]? = w.heap[k]?) ∧
    ∀ c el fz, w.heap[b]? = some (.cells c el fz) → (w.setCell ⟨b, o, none⟩ v).heap[b]? = some (.cells (c.setIfInBounds o v) el fz) := by
  refine ⟨fun k hk => ?_, fun c el fz hb => ?_⟩
  · simp only [World.setCell, Array.getElem?_modify]
    rw [if_neg (fun e => hk e.symm)]
  · simp only [World.setCell, Array.getElem?_modify, if_true, hb]
    rfl

theorem run_storeAll : ∀ (vs : List Value) (b o i : Nat) (w : World), (∀ j, j < vs.length → ∃ x, w.cell? ⟨b, o + (i + j), none⟩ = some x) → (∀ j, j < vs.length → w.frozen? ⟨b, o + (i + j), none⟩ = false) → (∀ v ∈ vs, v.oneCell' = true) →
    ∃ w', (storeCells ⟨b, o, none⟩ vs i).run P w = .ok () w' ∧ Wrote w w' b (o + i) vs
  | [], b, o, i, w, _, _, _ => ⟨w, rfl, rfl, rfl, rfl, rfl, fun _ _ => rfl, fun c el fz h => ⟨c, h, rfl, fun j => by rw [if_neg (by simp; omega)]⟩⟩
  | v :: vs, b, o, i, w, hc, hf, hv => by
    obtain ⟨x, hx⟩ := hc 0 (by simp)
    have hfz := hf 0 (by simp)
    simp only [Nat.add_zero] at hx hfz
    obtain ⟨g1, g2⟩ := setCell_heap w b (o + i) v
    obtain ⟨q, e, fz, hq, hqx⟩ := cell_cells hx
    have hlt := lt_of_some hqx
    have hset := g2 q e fz hq
    have hcell : ∀ k, (w.setCell ⟨b, o + i, none⟩ v).cell? ⟨b, o + k, none⟩ = if k = i then some v else w.cell? ⟨b, o + k, none⟩ := fun k => by
      rw [cell_of hset, cell_of hq]
      by_cases e : k = i
      · subst e; rw [if_pos rfl, Array.getElem?_setIfInBounds_self_of_lt hlt]
      · rw [if_neg e, Array.getElem?_setIfInBounds_ne (by omega)]
    obtain ⟨w', h1, h2⟩ := run_storeAll vs b o (i + 1) (w.setCell ⟨b, o + i, none⟩ v) (fun j hj => by
        obtain ⟨y, hy⟩ := hc (j + 1) (by simp; omega)
        rw [hcell]
        rw [show i + (j + 1) = i + 1 + j by omega] at hy
        rw [if_neg (by omega)]
        exact ⟨y, hy⟩) (fun j hj => by
        have := hf (j + 1) (by simp; omega)
        rw [show i + (j + 1) = i + 1 + j by omega] at this
        rw [World.frozen?_setCell]
        exact this) (fun u hu => hv u (by simp [hu]))
    refine ⟨w', ?_, ?_⟩
    · simp only [storeCells, add_at, Sem.run_bind]
      rw [run_store P w _ v _ (hv v (by simp)), hx]
      simp only [hfz, Bool.false_eq_true, if_false, Result.andThen_ok]
      exact h1
    · refine ⟨h2.os, h2.tape, h2.output, by rw [h2.size]; simp [World.setCell], fun k hk => by rw [h2.other k hk, g1 k hk], fun c el fz hb => ?_⟩
      obtain ⟨c', k1, k2, k3⟩ := h2.blk _ el fz (g2 c el fz hb)
      refine ⟨c', k1, by rw [k2]; simp, fun j => ?_⟩
      rw [k3]
      simp only [Array.size_setIfInBounds, List.length_cons]
      by_cases e : j = o + i
      · subst e
        rw [if_neg (by omega)]
        rw [hb] at hq
        cases hq
        rw [if_pos (by omega), Array.getElem?_setIfInBounds_self_of_lt hlt]
        simp
      · rw [Array.getElem?_setIfInBounds_ne (by omega)]
        by_cases q : o + (i + 1) ≤ j ∧ j < o + (i + 1) + vs.length ∧ j < c.size
        · rw [if_pos q, if_pos (by omega), show j - (o + i) = (j - (o + (i + 1))) + 1 by omega]
          simp
        · rw [if_neg q, if_neg (by omega)]

theorem Wrote.cell {w w' : World} {b o : Nat} {vs : List Value} (h : Wrote w w' b o vs) {p q : Nat} {x : Value} (hx : w.cell? ⟨p, q, none⟩ = some x) :
    w'.cell? ⟨p, q, none⟩ = if p = b ∧ o ≤ q ∧ q < o + vs.length then vs[q - o]? else some x := by
  obtain ⟨c, el, fz, h1, h2⟩ := cell_cells hx
  by_cases e : p = b
  · subst e
    obtain ⟨c', h3, h4, h5⟩ := h.blk c el fz h1
    have hlt := lt_of_some h2
    rw [cell_of h3, h5]
    by_cases e : o ≤ q ∧ q < o + vs.length
    · rw [if_pos ⟨e.1, e.2, hlt⟩, if_pos ⟨rfl, e⟩]
    · rw [if_neg (fun hh => e ⟨hh.1, hh.2.1⟩), if_neg (fun hh => e hh.2), h2]
  · rw [if_neg (fun hh => e hh.1), cell_of (by rw [h.other p e]; exact h1), h2]
theorem Wrote.frozen {w w' : World} {b o : Nat} {vs : List Value} (h : Wrote w w' b o vs) {p q : Nat} {x : Value} (hx : w.cell? ⟨p, q, none⟩ = some x) : w'.frozen? ⟨p, q, none⟩ = w.frozen? ⟨p, q, none⟩ := by
  obtain ⟨c, el, fz, h1, h2⟩ := cell_cells hx
  by_cases e : p = b
  · subst e
    obtain ⟨c', h3, h4, h5⟩ := h.blk c el fz h1
    rw [frozen_of h3, frozen_of h1]
  · rw [frozen_of (by rw [h.other p e]; exact h1), frozen_of h1]
theorem Wrote.ext {w w' : World} {b o : Nat} {vs : List Value} (h : Wrote w w' b o vs) {F : Nat → Nat → Prop} (hF : ∀ j, j < vs.length → F b (o + j)) (hne : vs ≠ []) : Ext F w w' := by
  refine ⟨h.os, h.tape, h.output, Nat.le_of_eq h.size.symm, fun k hk hn => ?_, fun k c el fz hk => ?_, fun k x hk hx => absurd (lt_of_some hx) (by rw [h.size]; omega)⟩
  · refine h.other k (fun e => ?_)
    subst e
    exact hn _ (hF 0 (List.length_pos_iff.2 hne))
  · by_cases e : k = b
    · subst e
      obtain ⟨c', h3, h4, h5⟩ := h.blk c el fz hk
      refine ⟨c', h3, h4, fun j hj => ?_⟩
      rw [h5, if_neg]
      rintro ⟨h6, h7, _⟩
      have := hF (j - o) (by omega)
      rw [show o + (j - o) = j by omega] at this
      exact hj this
    · exact ⟨c, by rw [h.other k e]; exact hk, rfl, fun _ _ => rfl⟩

/-- Some cells of a block written. -/
theorem step_write (hr : HR μ A h w) {id : Nat} {b : Blk} (hb : h.m.get id = some b) (hro : b.ro = false) (hlo : h.lo ≤ id) {r : Nat} {x c' : List Seg} {vs : List Value} (hvs : vs ≠ []) (hx : CR μ A x vs.toArray)
    (hlen : r + csize x ≤ csize b.c) (hs : csize c' = csize b.c) (hc : ∀ j, cat c' j = if r ≤ j ∧ j < r + csize x then cat x (j - r) else cat b.c j) {w' : World} (hw : Wrote w w' (μ id).b ((μ id).o + r) vs) :
    Step μ A h w μ A { h with m := h.m.set id { b with c := c' } } w' := by
  have hl : vs.length = csize x := by have := hx.1; simpa using this
  have hget : ∀ i, (h.m.set id { b with c := c' }).get i = if i = id then some { b with c := c' } else h.m.get i := fun i => T.get_set _ _ _ _
  have hlive : b.live := .inl (by have : 0 < vs.length := List.length_pos_iff.2 hvs; omega)
  have hext : Ext (foot μ h) w w' := hw.ext (fun j hj => ⟨id, b, hb, hro, rfl, by omega, .inr (by omega)⟩) hvs
  refine ⟨⟨?_, ?_, ?_, ?_, ?_⟩, fun _ h => h, fun _ _ => rfl, hext, ?_, rfl, ?_⟩
  · intro i k hk
    simp only [hget] at hk
    split at hk
    · rename_i e; subst e; exact hr.dom _ b hb
    · exact hr.dom i k hk
  · intro i k hk j s hs'
    simp only [hget] at hk
    split at hk
    · rename_i e
      subst e
      cases hk
      replace hs' : cat c' j = some s := hs'
      have hjlt : j < csize b.c := by have := cat_lt _ _ _ hs'; omega
      obtain ⟨s0, hs0⟩ := cat_some b.c j hjlt
      obtain ⟨y, h1, h2⟩ := hr.cells i b hb j s0 hs0
      rw [hw.cell h1]
      rw [hc] at hs'
      by_cases q : r ≤ j ∧ j < r + csize x
      · rw [if_pos q] at hs'
        rw [if_pos ⟨rfl, by omega, by omega⟩]
        obtain ⟨z, z1, z2⟩ := hx.2 _ s hs'
        refine ⟨z, ?_, z2⟩
        rw [show (μ i).o + j - ((μ i).o + r) = j - r by omega]
        simpa using z1
      · rw [if_neg q] at hs'
        rw [hs0] at hs'
        cases hs'
        rw [if_neg (by omega)]
        exact ⟨y, rfl, h2⟩
    · rename_i hne
      obtain ⟨y, h1, h2⟩ := hr.cells i k hk j s hs'
      refine ⟨y, ?_, h2⟩
      rw [hw.cell h1, if_neg]
      rintro ⟨e1, e2, e3⟩
      have hjk := cat_lt _ _ _ hs'
      rcases hr.apart i k id b hk hb hne (.inr hro) (.inl (by omega)) hlive with q | q | q
      · exact q e1
      · omega
      · omega
  · intro i k hk hro' j hj
    simp only [hget] at hk
    split at hk
    · rename_i e
      subst e
      cases hk
      simp only at hj
      rw [hs] at hj
      obtain ⟨s0, hs0⟩ := cat_some b.c j hj
      obtain ⟨y, h1, h2⟩ := hr.cells i b hb j s0 hs0
      rw [hw.frozen h1]
      exact hr.free i b hb hro j hj
    · obtain ⟨s0, hs0⟩ := cat_some k.c j hj
      obtain ⟨y, h1, h2⟩ := hr.cells i k hk j s0 hs0
      rw [hw.frozen h1]
      exact hr.free i k hk hro' j hj
  · intro i k hk hg
    have old : ∀ k0, h.m.get i = some k0 → k0.grow = true → ∃ c el, w'.heap[(μ i).b]? = some (.cells c el (0, 0)) ∧ (μ i).o + (μ i).fin ≤ c.size := fun k0 hk0 hg0 => by
      obtain ⟨_, c, el, h2, hf⟩ := hr.grow i k0 hk0 hg0
      obtain ⟨c2, h3, h4, _⟩ := hext.part _ c el _ h2
      exact ⟨c2, el, h3, by rw [h4]; exact hf⟩
    simp only [hget] at hk
    split at hk
    · rename_i e
      subst e
      cases hk
      exact ⟨hro, old b hb hg⟩
    · exact ⟨(hr.grow i k hk hg).1, old k hk hg⟩
  · intro i k j k' hk hk' hij hro' hl1 hl2
    have look : ∀ q k0, (h.m.set id { b with c := c' }).get q = some k0 → ∃ k1, h.m.get q = some k1 ∧ k1.ro = k0.ro ∧ k1.grow = k0.grow ∧ csize k1.c = csize k0.c := fun q k0 hq => by
      simp only [hget] at hq
      split at hq
      · rename_i e
        subst e
        cases hq
        exact ⟨b, hb, rfl, rfl, hs.symm⟩
      · exact ⟨k0, hq, rfl, rfl, rfl⟩
    obtain ⟨k1, a1, a2, a3, a4⟩ := look i k hk
    obtain ⟨k2, b1, b2, b3, b4⟩ := look j k' hk'
    have := hr.apart i k1 j k2 a1 b1 hij (by rw [a2, b2]; exact hro') (by unfold Blk.live at *; rw [a3, a4]; exact hl1) (by unfold Blk.live at *; rw [b3, b4]; exact hl2)
    unfold Apart at *
    rw [a3, a4, b3, b4] at this
    exact this
  · intro p o hf
    obtain ⟨i, k, hk, hro', h1, h2, h3⟩ := hf
    simp only [hget] at hk
    split at hk
    · rename_i e
      subst e
      cases hk
      exact .inl ⟨i, b, hb, hro, h1, h2, by simpa [hs] using h3⟩
    · exact .inl ⟨i, k, hk, hro', h1, h2, h3⟩
  · intro i hi
    simp only [hget]
    rw [if_neg (by omega)]

/-! Loads. -/
theorem choose_cells {m : Nat} {c : List Seg} (hm : csize c = m) {f : Nat → Option Value} (hf : ∀ j s, cat c j = some s → ∃ x, f j = some x ∧ SR μ A s x) :
    ∃ cells : Array Value, cells.size = m ∧ (∀ j, j < m → f j = some (cells.getD j undef)) ∧ CR μ A c cells := by
  refine ⟨((List.range m).map fun j => (f j).getD undef).toArray, by simp, fun j hj => ?_, by simp [hm], fun j s hs => ?_⟩
  · obtain ⟨s, hs⟩ := cat_some c j (by omega)
    obtain ⟨x, h1, _⟩ := hf j s hs
    simp [hj, h1]
  · have hj := cat_lt c j s hs
    obtain ⟨x, h1, h2⟩ := hf j s hs
    exact ⟨x, by simp [h1, show j < m by omega], h2⟩

theorem run_loadVar_agg {t : TypeId} {m : Nat} (ha : isAggT P t = some true) (hs : sizeT P t = some m) {b o : Nat} {cells : Array Value} (hsz : cells.size = m) (hc : ∀ j, j < m → w.cell? ⟨b, o + j, none⟩ = some (cells.getD j undef)) :
    (loadVar t ⟨b, o, none⟩).run P w = .ok (.agg cells) w := by
  have h1 := run_loadCells_list (P := P) w ⟨b, o, none⟩ cells.toList (fun j v hv => by
    rw [add_at]
    have hj : j < m := by
      have := List.getElem?_eq_some_iff.1 hv
      obtain ⟨h, _⟩ := this
      simpa [hsz] using h
    rw [hc j hj]
    rw [Array.getD_eq_getD_getElem?, ← Array.getElem?_toList, hv]
    rfl)
  simp only [Array.length_toList, hsz, Array.toArray_toList] at h1
  simp [loadVar, run_isAgg ha, run_size hs, h1]

/-- What is told of a number's cells is so. -/
def CellsOk (P : Program) [Tb P] (μ : Mu) (A : Nat → Prop) (h : H) (w : World) : Prop :=
  ∀ id c, cellsC P h id = some c → ∀ j s, cat c j = some s → ∃ x, w.cell? ⟨(μ id).b, (μ id).o + j, none⟩ = some x ∧ SR μ A s x

/-- A load, in the world and in every world that has no more than new blocks. -/
theorem loadC_all (hr : CellsOk P μ A h w) {t : TypeId} {x v : V} {c : Bool} (hl : loadC P h t x = some (c, v)) (hc : c = true) {X : Value} (hx : VR μ A x X) :
    ∃ z, VR μ A v z ∧ ∃ a, X = .pointer (some a) ∧ ∀ w', Ext (fun _ _ => False) w w' → (loadVar t a).run P w' = .ok z w' := by
  subst hc
  unfold loadC at hl
  try simp only [undX_eq, szX_eq, agX_eq, zvX_eq, knX_eq, gdX_eq, byX_eq, zlX_eq, ikX_eq] at hl
  split at hl
  · rename_i a
    simp only [VR, SR] at hx
    obtain ⟨_, rfl⟩ := hx
    have fin : ∀ z, VR μ A v z → (∀ w', Ext (fun _ _ => False) w w' → (loadVar t (a.conc μ)).run P w' = .ok z w') → ∃ z, VR μ A v z ∧ ∃ a', Value.pointer (some (a.conc μ)) = .pointer (some a') ∧ ∀ w', Ext (fun _ _ => False) w w' → (loadVar t a').run P w' = .ok z w' :=
      fun z h1 h2 => ⟨z, h1, _, rfl, h2⟩
    split at hl
    · rename_i b hb
      split at hl
      · rename_i m ha hs
        obtain ⟨c', h1, rfl⟩ := mapR_some hl
        obtain ⟨h2, h3⟩ := rdC_spec h1 rfl
        obtain ⟨cells, k1, k2, k3⟩ := choose_cells (μ := μ) (A := A) h2 (f := fun j => w.cell? ⟨(μ a.id).b, (μ a.id).o + a.real + j, none⟩) (fun j s hs => by
          have hj := cat_lt c' j s hs
          rw [h3 j (by omega)] at hs
          obtain ⟨y, y1, y2⟩ := hr a.id b hb _ s hs
          exact ⟨y, by rw [← Nat.add_assoc] at y1; exact y1, y2⟩)
        exact fin (.agg cells) (by simp only [VR]; exact ⟨_, rfl, k3⟩) (fun w' e => run_loadVar_agg ha hs k1 (fun j hj => e.cell (k2 j hj) id))
      · rename_i ha
        obtain ⟨s, h1, rfl⟩ := mapR_some hl
        have h2 := rdS_spec h1 rfl
        obtain ⟨y, y1, y2⟩ := hr a.id b hb _ s h2
        exact fin y (by simpa only [VR] using y2) (fun w' e => by have y3 := e.cell y1 id; simp [loadVar, run_isAgg ha, AA.conc, y3])
      · cases hl
    · cases hl
  · cases hl

theorem loadC_ok (hr : CellsOk P μ A h w) {t : TypeId} {x v : V} {c : Bool} (hl : loadC P h t x = some (c, v)) (hc : c = true) {X : Value} (hx : VR μ A x X) :
    ∃ z, VR μ A v z ∧ (Instr.loadAt t X).run P w = .ok z w ∧ ∃ a, X = .pointer (some a) ∧ (loadVar t a).run P w = .ok z w := by
  obtain ⟨z, h1, a, rfl, h2⟩ := loadC_all (P := P) hr hl hc hx
  have h3 := h2 w (Ext.refl _ _)
  exact ⟨z, h1, by simp [Instr.loadAt, Instr.sureAddr, h3], a, rfl, h3⟩

/-- A block's content told in other words. -/
theorem step_same (hr : HR μ A h w) {id : Nat} {b : Blk} (hb : h.m.get id = some b) (hro : b.ro = false) (hlo : h.lo ≤ id) {c' : List Seg} (h3 : csize c' = csize b.c) (hcat : ∀ j, cat c' j = cat b.c j) :
    Step μ A h w μ A { h with m := h.m.set id { b with c := c' } } w := by
  have heq : ∀ i, (h.m.set id { b with c := c' }).get i = if i = id then some { b with c := c' } else h.m.get i := fun i => T.get_set _ _ _ _
  refine ⟨⟨?_, ?_, ?_, ?_, ?_⟩, fun _ h => h, fun _ _ => rfl, .refl _ _, ?_, rfl, ?_⟩
  · intro i k hk
    simp only [heq] at hk
    split at hk
    · rename_i e; subst e; exact hr.dom _ b hb
    · exact hr.dom i k hk
  · intro i k hk j s hs'
    simp only [heq] at hk
    split at hk
    · rename_i e
      subst e
      cases hk
      simp only [hcat] at hs'
      exact hr.cells _ b hb j s hs'
    · exact hr.cells i k hk j s hs'
  · intro i k hk hro' j hj
    simp only [heq] at hk
    split at hk
    · rename_i e
      subst e
      cases hk
      simp only [h3] at hj
      exact hr.free _ b hb hro' j hj
    · exact hr.free i k hk hro' j hj
  · intro i k hk hg
    simp only [heq] at hk
    split at hk
    · rename_i e
      subst e
      cases hk
      exact hr.grow _ b hb hg
    · exact hr.grow i k hk hg
  · intro i k j k' hk hk' hij hro' hl1 hl2
    have look : ∀ q k0, (h.m.set id { b with c := c' }).get q = some k0 → ∃ k1, h.m.get q = some k1 ∧ k1.ro = k0.ro ∧ k1.grow = k0.grow ∧ csize k1.c = csize k0.c := fun q k0 hq => by
      simp only [heq] at hq
      split at hq
      · rename_i e
        subst e
        cases hq
        exact ⟨b, hb, rfl, rfl, h3.symm⟩
      · exact ⟨k0, hq, rfl, rfl, rfl⟩
    obtain ⟨k1, a1, a2, a3, a4⟩ := look i k hk
    obtain ⟨k2, b1, b2, b3, b4⟩ := look j k' hk'
    have := hr.apart i k1 j k2 a1 b1 hij (by rw [a2, b2]; exact hro') (by unfold Blk.live at *; rw [a3, a4]; exact hl1) (by unfold Blk.live at *; rw [b3, b4]; exact hl2)
    unfold Apart at *
    rw [a3, a4, b3, b4] at this
    exact this
  · intro p o hf
    obtain ⟨i, k, hk, hro', q1, q2, q3⟩ := hf
    simp only [heq] at hk
    split at hk
    · rename_i e
      subst e
      cases hk
      exact .inl ⟨_, b, hb, hro, q1, q2, by simpa [h3] using q3⟩
    · exact .inl ⟨i, k, hk, hro', q1, q2, q3⟩
  · intro i hi
    simp only [heq]
    rw [if_neg (by omega)]

/-! Stores. -/
theorem run_storeVar_cells {t : TypeId} {m : Nat} (hs : sizeT P t = some m) {X : Value} (hX : X.cells.size = m) (a : Addr) (w : World) : (storeVar t a X).run P w = (storeCells a X.cells.toList).run P w := by
  simp [storeVar, run_size hs, hX]

theorem SR_one {s : S} {x : Value} (hs : SR μ A s x) : x.oneCell' = true := hs.cells.2

theorem storeC_ok (hr : HR μ A h w) {t : TypeId} {x v : V} {c : Bool} {h' : H} (hl : storeC P h t x v = some (c, h')) (hc : c = true) {X Y : Value} (hx : VR μ A x X) (hy : VR μ A v Y) :
    ∃ w', (Instr.storeAt t X Y).run P w = .ok () w' ∧ Step μ A h w μ A h' w' := by
  subst hc
  unfold storeC at hl
  try simp only [undX_eq, szX_eq, agX_eq, zvX_eq, knX_eq, gdX_eq, byX_eq, zlX_eq, ikX_eq] at hl
  split at hl
  · rename_i a
    simp only [VR, SR] at hx
    obtain ⟨_, rfl⟩ := hx
    split at hl
    · rename_i b hb
      simp only [Bool.cond_eq_ite, Bool.or_eq_true] at hl
      split at hl
      · cases hl
      rename_i hno
      have hro : b.ro = false := by cases hq : b.ro <;> simp_all
      have hlo : h.lo ≤ a.id := by
        rcases Nat.lt_or_ge a.id h.lo with q | q
        · exact absurd (.inr (blt_iff.2 q)) hno
        · exact q
      have hat : a.conc μ = ⟨(μ a.id).b, (μ a.id).o + a.real, none⟩ := rfl
      split at hl
      · rename_i s m hs
        simp only [beq_iff] at hl
        split at hl
        · rename_i hm
          subst hm
          obtain ⟨c', h1, rfl⟩ := mapR_some hl
          obtain ⟨h2, h3, h4⟩ := wrS_spec h1 rfl
          simp only [VR] at hy
          obtain ⟨e1, e2⟩ := hy.cells
          obtain ⟨s0, hs0⟩ := cat_some b.c a.real h2
          obtain ⟨z0, z1, z2⟩ := hr.cells a.id b hb _ s0 hs0
          obtain ⟨w', g1, g2⟩ := run_storeAll (P := P) [Y] (μ a.id).b ((μ a.id).o + a.real) 0 w (fun j hj => by
              simp at hj; subst hj; exact ⟨z0, by simpa using z1⟩) (fun j hj => by
              simp at hj; subst hj; simpa using hr.free a.id b hb hro _ h2) (by simpa using e2)
          have hone : csize [Seg.one s] = 1 := rfl
          refine ⟨w', ?_, step_write hr hb hro hlo (r := a.real) (x := [.one s]) (vs := [Y]) (by simp) (by have := content_CR (v := .sc s) (by simpa only [VR] using hy) rfl; rw [e1] at this; exact this) (by rw [hone]; omega) h3 (fun j => by
            rw [h4, hone, cat_one]
            by_cases e : j = a.real
            · rw [if_pos e, if_pos (by omega), if_pos (by omega)]
            · rw [if_neg e, if_neg (by omega)]) (by simpa using g2)⟩
          rw [Instr.storeAt, Sem.run_bind, show (Instr.sureAddr (.pointer (some (a.conc μ)))).run P w = .ok (a.conc μ) w from rfl, Result.andThen_ok, run_storeVar_cells hs (by rw [e1]; rfl), e1, hat]
          exact g1
        · cases hl
      · rename_i cv m hs
        simp only [beq_iff] at hl
        split at hl
        · rename_i hm
          subst hm
          obtain ⟨c', h1, rfl⟩ := mapR_some hl
          obtain ⟨h2, h3, h4⟩ := wrC_spec h1
          simp only [VR] at hy
          obtain ⟨cells, rfl, hcr⟩ := hy
          have hone : ∀ u ∈ cells.toList, u.oneCell' = true := fun u hu => by
            obtain ⟨j, hj⟩ := List.getElem?_of_mem hu
            have hj' : cells[j]? = some u := by simpa using hj
            have hlt := lt_of_some hj'
            rw [hcr.1] at hlt
            obtain ⟨s, hs⟩ := cat_some cv j hlt
            obtain ⟨y, y1, y2⟩ := hcr.2 j s hs
            rw [hj'] at y1
            cases y1
            exact SR_one y2
          by_cases hz : cells.toList = []
          · have hz0 : csize cv = 0 := by rw [← hcr.1]; simpa using congrArg List.length hz
            refine ⟨w, ?_, ?_⟩
            · rw [Instr.storeAt, Sem.run_bind, show (Instr.sureAddr (.pointer (some (a.conc μ)))).run P w = .ok (a.conc μ) w from rfl, Result.andThen_ok, run_storeVar_cells hs (by exact hcr.1)]
              show (storeCells (a.conc μ) cells.toList).run P w = _
              rw [hz]
              rfl
            · exact step_same hr hb hro hlo h3 (fun j => by rw [h4, if_neg (by omega)])
          · obtain ⟨w', g1, g2⟩ := run_storeAll (P := P) cells.toList (μ a.id).b ((μ a.id).o + a.real) 0 w (fun j hj => by
                obtain ⟨s0, hs0⟩ := cat_some b.c (a.real + j) (by rw [Array.length_toList, hcr.1] at hj; omega)
                obtain ⟨z0, z1, _⟩ := hr.cells a.id b hb _ s0 hs0
                exact ⟨z0, by rw [Nat.zero_add, Nat.add_assoc]; exact z1⟩) (fun j hj => by
                rw [Nat.zero_add, Nat.add_assoc]
                exact hr.free a.id b hb hro _ (by rw [Array.length_toList, hcr.1] at hj; omega)) hone
            refine ⟨w', ?_, step_write hr hb hro hlo (r := a.real) (x := cv) hz (by simpa using hcr) h2 h3 h4 (by simpa using g2)⟩
            rw [Instr.storeAt, Sem.run_bind, show (Instr.sureAddr (.pointer (some (a.conc μ)))).run P w = .ok (a.conc μ) w from rfl, Result.andThen_ok, run_storeVar_cells hs (by exact hcr.1), hat]
            exact g1
        · cases hl
      · cases hl
    · cases hl
  · cases hl

end
end Go.Proofs.YteionboacdkfjaaDoor.X
