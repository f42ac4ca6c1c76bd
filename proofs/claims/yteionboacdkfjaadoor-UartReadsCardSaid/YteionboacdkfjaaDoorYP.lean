/-
  X, part P: how a statement's argument without pointers reads: what its cells are, and that no memory is looked at.
-/
import Derived.Test.YteionboacdkfjaaDoorYO
import Derived.ChangeSame
import Derived.OpenShut
namespace Go.Proofs.YteionboacdkfjaaDoor.X
set_option linter.unusedSectionVars false
open Go.ChangeShapes

/-- A cell of a kind, its integer in range. -/
def Cell1 : LK → Value → Prop
  | .b, v => ∃ x, v = .bool x
  | .i k, v => ∃ n, v = .int k n ∧ (Lit.int k n).wf = true
  | .s, v => ∃ s, v = .string s

def Cells (ks : List LK) (cs : List Value) : Prop := ks.length = cs.length ∧ ∀ (j : Nat) (k : LK), ks[j]? = some k → ∃ v, cs[j]? = some v ∧ Cell1 k v

theorem Cells.append {ks ls : List LK} {cs ds : List Value} (h : Cells ks cs) (g : Cells ls ds) : Cells (ks ++ ls) (cs ++ ds) := by
  refine ⟨by simp [h.1, g.1], fun j k hj => ?_⟩
  by_cases hlt : j < ks.length
  · rw [List.getElem?_append_left hlt] at hj
    obtain ⟨v, h1, h2⟩ := h.2 j k hj
    exact ⟨v, by rw [List.getElem?_append_left (by rw [← h.1]; exact hlt)]; exact h1, h2⟩
  · rw [List.getElem?_append_right (by omega)] at hj
    obtain ⟨v, h1, h2⟩ := g.2 _ k hj
    exact ⟨v, by rw [List.getElem?_append_right (by rw [← h.1]; omega), ← h.1]; exact h1, h2⟩

section
variable {P : Program} [Tb P] {H : Type} {enc : TypeId × Value → H} {held : Bool}

theorem cellsOf_kinds {q : Nat} {t : TypeId} {ks : List LK} (h : kindsT P q t = some ks) : P.cellsOf t = ks.length := by
  have := (kindsT_size q t ks h).1
  obtain ⟨i, h1, h2⟩ := sizeT_info this
  simp [Program.cellsOf, h1, h2]

/-- The reading of a value without pointers. -/
def Plain (P : Program) (enc : TypeId × Value → H) (held : Bool) (t : TypeId) (ks : List LK) (cs : List Value) (fuel : Nat) (x : DataW H × List MemPlace) : Prop :=
  x.2 = [] ∧ Cells ks cs ∧ ∀ (w : World) (base : Nat) (spare : Nat → Bool), DataW.trod enc P w base spare held fuel t cs = some x

theorem mapM_opt {α β : Type} {f : α → Option β} : ∀ (l : List α) (xs : List β), l.length = xs.length → (∀ (i : Nat) (a : α), l[i]? = some a → f a = xs[i]?) → l.mapM f = some xs
  | [], [], _, _ => rfl
  | a :: l, [], h, _ => by simp at h
  | [], x :: xs, h, _ => by simp at h
  | a :: l, x :: xs, h, hf => by
    have h0 := hf 0 a rfl
    have hr := mapM_opt (f := f) l xs (by simpa using h) (fun i b hb => by simpa using hf (i + 1) b (by simpa using hb))
    simp only [List.getElem?_cons_zero] at h0
    simp [List.mapM_cons, h0, hr]

theorem flat_nil {xs : List (DataW H × List MemPlace)} (h : ∀ x ∈ xs, x.2 = []) : xs.flatMap (·.2) = [] := by
  simp only [List.flatMap_eq_nil_iff]
  exact h

mutual
theorem trod_kinds : ∀ (q : Nat) (t : TypeId) (ks : List LK), kindsT P q t = some ks → ∀ (fuel : Nat) (cs : List Value) (x : DataW H × List MemPlace) (w : World) (base : Nat) (spare : Nat → Bool), DataW.trod enc P w base spare held fuel t cs = some x → Plain P enc held t ks cs fuel x
  | 0, _, _, h, _, _, _, _, _, _, _ => by simp [kindsT] at h
  | q + 1, t, ks, h, fuel, cs, x, w, base, spare, ht => by
    unfold kindsT at h
    split at h
    · rename_i hu
      simp only [Bool.cond_eq_ite, decide_eq_true_eq] at h
      split at h
      · cases h
        obtain ⟨b, rfl, rfl⟩ := DataW.trod_bool hu ht
        refine ⟨rfl, ⟨rfl, fun j k hj => ?_⟩, fun w' base' spare' => ?_⟩
        · match j, hj with
          | 0, hj => cases hj; exact ⟨_, rfl, b, rfl⟩
        · cases fuel with
          | zero => simp [DataW.trod] at ht
          | succ n => simp [DataW.trod, hu]
      · cases h
    · rename_i kd hu
      simp only [Bool.cond_eq_ite, decide_eq_true_eq] at h
      split at h
      · cases h
        obtain ⟨n, rfl, rfl, hwf⟩ := DataW.trod_int hu ht
        refine ⟨rfl, ⟨rfl, fun j k hj => ?_⟩, fun w' base' spare' => ?_⟩
        · match j, hj with
          | 0, hj => cases hj; exact ⟨_, rfl, n, rfl, hwf⟩
        · cases fuel with
          | zero => simp [DataW.trod] at ht
          | succ n => exact trod_int_mk _ hu hwf
      · cases h
    · rename_i hu
      simp only [Bool.cond_eq_ite, decide_eq_true_eq] at h
      split at h
      · cases h
        cases fuel with
        | zero => simp [DataW.trod] at ht
        | succ n =>
          have ht0 := ht
          unfold DataW.trod at ht
          rw [hu] at ht
          split at ht <;> simp_all
          rename_i s
          obtain ⟨hs, rfl⟩ := ht
          refine ⟨rfl, ⟨rfl, fun j k hj => ?_⟩, fun w' base' spare' => by simp [DataW.trod, hu, hs]⟩
          match j, hj with
          | 0, hj => cases hj; exact ⟨_, rfl, s, rfl⟩
      · cases h
    · rename_i fs hu
      split at h
      · rename_i ks' hks
        simp only [Bool.cond_eq_ite, Bool.and_eq_true, decide_eq_true_eq] at h
        split at h
        · rename_i hc
          cases h
          obtain ⟨xs, n, rfl, rfl, hl, hlen, hf⟩ := DataW.trod_struct hu ht
          have hcell : P.cellsOf t = ks.length := by
            obtain ⟨i, h1, h2⟩ := sizeT_info hc.2
            simp [Program.cellsOf, h1, h2]
          have hF := trod_fields q fs.toList 0 ks hks n cs xs w base spare (by simpa using hlen.symm) (fun i f hi => hf i f (by simpa using hi))
          obtain ⟨g1, g2, g3⟩ := hF
          simp only [List.drop_zero] at g2
          rw [List.take_of_length_le (by rw [hl, hcell]; omega)] at g2
          refine ⟨flat_nil g1, g2, fun w' base' spare' => ?_⟩
          exact trod_struct_mk hu hl (mapM_opt _ _ (by simpa using hlen.symm) (fun i f hi => g3 w' base' spare' i f hi))
        · cases h
      · cases h
    · rename_i n e hu
      split at h
      · rename_i ks' hks
        simp only [Bool.cond_eq_ite, decide_eq_true_eq] at h
        split at h
        · rename_i hc
          cases h
          obtain ⟨xs, m, rfl, rfl, hl, hlen, hf⟩ := DataW.trod_array hu ht
          have hsz := cellsOf_kinds hks
          have hcell : P.cellsOf t = n * ks'.length := by
            obtain ⟨i, h1, h2⟩ := sizeT_info hc
            simp [Program.cellsOf, h1, h2]
          have each : ∀ i, i < n → ∃ y, xs[i]? = some y ∧ Plain P enc held e ks' ((cs.drop (i * P.cellsOf e)).take (P.cellsOf e)) m y := fun i hi => by
            have h1 := hf i hi
            have h2 : xs[i]? = some xs[i] := List.getElem?_eq_getElem (by omega)
            rw [h2] at h1
            exact ⟨_, h2, trod_kinds q e ks' hks m _ _ w base spare h1⟩
          refine ⟨flat_nil (fun y hy => ?_), ?_, fun w' base' spare' => ?_⟩
          · obtain ⟨i, hi⟩ := List.getElem?_of_mem hy
            have hlt : i < n := by
              obtain ⟨h, _⟩ := List.getElem?_eq_some_iff.1 hi
              omega
            obtain ⟨y', h1, h2⟩ := each i hlt
            rw [hi] at h1
            cases h1
            exact h2.1
          · have key : ∀ (k : Nat), k ≤ n → Cells (List.replicate k ks').flatten (cs.take (k * ks'.length)) := by
              intro k
              induction k with
              | zero => intro _; exact ⟨by simp, fun j k hj => by simp at hj⟩
              | succ k ih =>
                intro hk
                obtain ⟨y, _, h2⟩ := each k (by omega)
                have := (ih (by omega)).append h2.2.1
                rw [List.replicate_succ', List.flatten_append]
                simp only [List.flatten_cons, List.flatten_nil, List.append_nil]
                rw [Nat.add_mul, Nat.one_mul, List.take_add]
                rw [hsz] at this
                exact this
            have := key n (Nat.le_refl _)
            rwa [List.take_of_length_le (by rw [hl, hcell]; omega)] at this
          · unfold DataW.trod
            rw [hu]
            have hm : (List.range n).mapM (fun i => DataW.trod enc P w' base' spare' held m e ((cs.drop (i * P.cellsOf e)).take (P.cellsOf e))) = some xs :=
              mapM_opt _ _ (by simpa using hlen.symm) (fun i a hi => by
                have hlt : i < n := by
                  obtain ⟨h, _⟩ := List.getElem?_eq_some_iff.1 hi
                  simpa using h
                have : a = i := by
                  rw [List.getElem?_range hlt] at hi
                  exact (Option.some.inj hi).symm
                subst this
                obtain ⟨y, h1, h2⟩ := each a hlt
                rw [h1]
                exact h2.2.2 w' base' spare')
            split <;> simp_all
        · cases h
      · cases h
    · cases h
theorem trod_fields : ∀ (q : Nat) (fs : List Field) (o : Nat) (ks : List LK), kindsF P q fs o = some ks → ∀ (n : Nat) (cs : List Value) (xs : List (DataW H × List MemPlace)) (w : World) (base : Nat) (spare : Nat → Bool), fs.length = xs.length →
    (∀ (i : Nat) (f : Field), fs[i]? = some f → DataW.trod enc P w base spare held n f.type ((cs.drop f.offset).take (P.cellsOf f.type)) = xs[i]?) →
    (∀ x ∈ xs, x.2 = []) ∧ Cells ks ((cs.drop o).take ks.length) ∧ ∀ (w' : World) (base' : Nat) (spare' : Nat → Bool) (i : Nat) (f : Field), fs[i]? = some f → DataW.trod enc P w' base' spare' held n f.type ((cs.drop f.offset).take (P.cellsOf f.type)) = xs[i]?
  | 0, _, _, _, h, _, _, _, _, _, _, _, _ => by simp [kindsF] at h
  | q + 1, fs, o, ks, h, n, cs, xs, w, base, spare, hlen, hf => by
    unfold kindsF at h
    split at h
    · cases h
      cases xs with
      | nil => exact ⟨fun x hx => (by cases hx), ⟨by simp, fun j k hj => by simp at hj⟩, fun w' base' spare' i f hi => by simp at hi⟩
      | cons x xs => simp at hlen
    · rename_i f r
      split at h
      · rename_i ks' ls hks hls
        simp only [Bool.cond_eq_ite, Bool.and_eq_true, decide_eq_true_eq, beq_iff] at h
        split at h
        · rename_i hc
          cases h
          obtain ⟨_, ho, hcell⟩ := hc
          cases xs with
          | nil => simp at hlen
          | cons x xs =>
            have h0 := hf 0 f rfl
            simp only [List.getElem?_cons_zero] at h0
            have hp := trod_kinds q f.type ks' hks n _ x w base spare h0
            obtain ⟨g1, g2, g3⟩ := trod_fields q r (o + P.cellsOf f.type) ls hls n cs xs w base spare (by simpa using hlen) (fun i f' hi => by simpa using hf (i + 1) f' (by simpa using hi))
            refine ⟨fun y hy => ?_, ?_, fun w' base' spare' i f' hi => ?_⟩
            · rcases List.mem_cons.1 hy with rfl | hy
              · exact hp.1
              · exact g1 y hy
            · rw [List.length_append, List.take_add, List.drop_drop]
              have a1 := hp.2.1
              rw [ho, hcell] at a1
              rw [hcell] at g2
              exact a1.append g2
            · cases i with
              | zero =>
                simp only [List.getElem?_cons_zero, Option.some.injEq] at hi
                subst hi
                simp only [List.getElem?_cons_zero]
                exact hp.2.2 w' base' spare'
              | succ i =>
                simp only [List.getElem?_cons_succ] at hi ⊢
                exact g3 w' base' spare' i f' hi
        · cases h
      · cases h
end

/-- A value without pointers, as it reads. -/
theorem plain_of {t : TypeId} {ks : List LK} (hk : kindsT P 40 t = some ks) {w : World} {base : Nat} {spare : Nat → Bool} {v : Value} {d : DataW H} {ps : List MemPlace} (h : DataW.Trod enc P w base spare held t v d ps) :
    ps = [] ∧ Cells ks v.cells.toList ∧ ∀ (w' : World) (base' : Nat) (spare' : Nat → Bool), DataW.Trod enc P w' base' spare' held t v d [] := by
  obtain ⟨fuel, hf⟩ := h
  obtain ⟨h1, h2, h3⟩ := trod_kinds 40 t ks hk fuel _ _ w base spare hf
  simp only at h1
  subst h1
  exact ⟨rfl, h2, fun w' base' spare' => ⟨fuel, h3 w' base' spare'⟩⟩

end
end Go.Proofs.YteionboacdkfjaaDoor.X
