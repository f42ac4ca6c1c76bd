/-
  X, part S: a statement's arguments with slices: what their cells are; that arguments read as they did.
-/
import Derived.Test.YteionboacdkfjaaDoorYR
import Derived.WideKeyArgs
namespace Go.Proofs.YteionboacdkfjaaDoor.X
set_option linter.unusedSectionVars false
open Go.ChangeShapes Go.WideShapes

noncomputable def intOf : Value → Int
  | .int _ n => n
  | _ => 0
noncomputable def boolOf : Value → Bool
  | .bool b => b
  | _ => false
/-- The cell that lies so many cells on. -/
noncomputable def cellAt (W : World) (b o j : Nat) : Value := (W.cell? ⟨b, o + j, none⟩).getD undef

section
variable {P : Program} [Tb P] {H : Type} {enc : TypeId × Value → H} {held : Bool}

theorem slice_of {t e : TypeId} {ks : List LK} (ht : P.underlying t = some (.slice e)) (hk : kindsT P 40 e = some ks) {W : World} {base b0 : Nat} {sp : Nat → Bool} {v : Value} {d : DataW H} {ps : List MemPlace}
    (hval : Value.okWide P W .any b0 t v) (h : DataW.Trod enc P W base sp held t v d ps) :
    v = .slice none 0 0 ∨ ∃ b o len cap, v = .slice (some ⟨b, o, none⟩) len cap ∧ len ≤ cap ∧ cap ≤ maxLen ∧ ∀ i, i < len → ∀ j k, ks[j]? = some k → W.cell? ⟨b, o + (i * ks.length + j), none⟩ = some (cellAt W b o (i * ks.length + j)) ∧ Cell1 k (cellAt W b o (i * ks.length + j)) := by
  obtain ⟨fuel, hf⟩ := h
  rcases DataW.trod_slice ht hf with ⟨h0, _⟩ | ⟨a, len, cap, elems, rest, n, _, hc, hx, hb, hl, hm, hlen, hel, _, _⟩
  · left
    obtain ⟨a, len, cap, rfl⟩ := okWide_slice ht hval
    simpa [Value.cells] using h0
  · right
    obtain ⟨a', len', cap', rfl⟩ := okWide_slice ht hval
    simp [Value.cells] at hc
    obtain ⟨rfl, rfl, rfl⟩ := hc
    simp only [Value.okWide, ht, Cell.okWide, Cell.ok] at hval
    obtain ⟨_, _, _, hspot, _⟩ := hval
    obtain ⟨b, o, spot⟩ := a
    simp only at hspot
    subst hspot
    refine ⟨b, o, len', cap', rfl, hl, hm, fun i hi j k hj => ?_⟩
    have h1 := hel i hi
    have h2 : elems[i]? = some elems[i] := List.getElem?_eq_getElem (by omega)
    rw [h2, Option.bind_eq_some_iff] at h1
    obtain ⟨cs, h3, h4⟩ := h1
    have hp := trod_kinds 40 e ks hk n _ _ W base sp h4
    have hsz := cellsOf_kinds hk
    obtain ⟨_, hcl, hcell⟩ := World.cells?_some h3
    have hjl : j < ks.length := by
      obtain ⟨q, _⟩ := List.getElem?_eq_some_iff.1 hj
      exact q
    have h5 := hcell j (by rw [hsz]; exact hjl)
    rw [add_plain, add_plain, hsz, Nat.add_assoc] at h5
    obtain ⟨x, x1, x2⟩ := hp.2.1.2 j k hj
    rw [x1] at h5
    have : cellAt W b o (i * ks.length + j) = x := by rw [cellAt, h5]; rfl
    rw [this]
    exact ⟨h5, x2⟩

/-- A heap of blocks that are read alone. -/
theorem hr_ro {μ : Mu} {A : Nat → Prop} {h : Go.Proofs.YteionboacdkfjaaDoor.X.H} {w : World} (hd : ∀ i b, h.m.get i = some b → A i ∧ b.ro = true ∧ b.grow = false)
    (hc : ∀ i b, h.m.get i = some b → ∀ j s, cat b.c j = some s → ∃ x, w.cell? ⟨(μ i).b, (μ i).o + j, none⟩ = some x ∧ SR μ A s x) : HR μ A h w :=
  ⟨fun i b hb => (hd i b hb).1, hc, fun i b hb hro => (by rw [(hd i b hb).2.1] at hro; cases hro), fun i b hb hg => (by rw [(hd i b hb).2.2] at hg; cases hg),
    fun i b j b' hb hb' _ hro => (by rw [(hd i b hb).2.1, (hd j b' hb').2.1] at hro; rcases hro with q | q <;> cases q)⟩

theorem foot_ro {μ : Mu} {h : Go.Proofs.YteionboacdkfjaaDoor.X.H} (hd : ∀ i b, h.m.get i = some b → b.ro = true) {b o : Nat} (hf : foot μ h b o) : False := by
  obtain ⟨i, k, hk, hro, _⟩ := hf
  rw [hd i k hk] at hro
  cases hro

theorem Ext.sameAt {W W' : World} (e : Ext (fun _ _ => False) W W') {p : MemPlace} (hp : p.block < W.heap.size) : W.sameAt W' p := by
  have hs := e.same p.block hp (fun _ h => h)
  cases p with
  | cell b o =>
    simp only [World.sameAt, World.cell?]
    simp only [MemPlace.block] at hs
    rw [hs]
  | map b => exact hs

/-- What was not written reads as it did. -/
theorem args_same (hl : laidOutB P = true) {W W' : World} (e : Ext (fun _ _ => False) W W') {sp : Nat → Bool} : ∀ {ts : List TypeId} {vs : List Value} {ds : List (DataW H)} {ps : List MemPlace},
    (∀ t ∈ ts, P.readableRec t = true ∧ t < P.types.size) → DataW.TrodAll enc P W 0 (fun _ => true) true ts vs ds ps → (∀ p ∈ ps, p.block < W.heap.size) → (∀ p ∈ ps, sp p.block = true) → DataW.TrodAll enc P W' 0 sp true ts vs ds ps
  | [], [], [], _, _, h, _, _ => h
  | t :: ts, v :: vs, d :: ds, ps, hr, ⟨p, q, h1, h2, h3⟩, hlt, hs => by
    subst h3
    exact ⟨p, q, WideElems.Trod_stays hl (hr t (by simp)).1 (hr t (by simp)).2 h1 (fun x hx => e.sameAt (hlt x (by simp [hx]))) (fun x hx => hs x (by simp [hx])),
      args_same hl e (fun t' ht' => hr t' (by simp [ht'])) h2 (fun x hx => hlt x (by simp [hx])) (fun x hx => hs x (by simp [hx])), rfl⟩
  | [], _ :: _, _, _, _, h, _, _ => h.elim
  | [], [], _ :: _, _, _, h, _, _ => h.elim
  | _ :: _, [], _, _, _, h, _, _ => h.elim
  | _ :: _, _ :: _, [], _, _, h, _, _ => h.elim

end
end Go.Proofs.YteionboacdkfjaaDoor.X
