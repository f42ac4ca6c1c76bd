/-
  X, part E: '==' of structs and arrays, cell by cell.
-/
import Derived.Test.YteionboacdkfjaaDoorYD
import Derived.ChangeKeysEq
namespace Go.Proofs.YteionboacdkfjaaDoor.X
set_option linter.unusedSectionVars false

def cellFit : LK → Value → Bool
  | .b, .bool _ => true
  | .i k, .int k' _ => ikEq k k'
  | .s, .string _ => true
  | _, _ => false

def eqCell : Value → Value → Bool
  | .bool a, .bool b => a == b
  | .int _ a, .int _ b => a == b
  | .string a, .string b => a.toList == b.toList
  | _, _ => false

/-- A value of a type, of so many cells, which are told. -/
def IsV (P : Program) (t : TypeId) (X : Value) (n : Nat) (f : Nat → Value) : Prop :=
  (isAggT P t = some true ∧ ∃ cells, X = .agg cells ∧ cells.size = n ∧ ∀ j, j < n → cells[j]? = some (f j)) ∨ (isAggT P t = some false ∧ n = 1 ∧ X = f 0)

theorem run_part_is {P : Program} {t : TypeId} {n : Nat} (hs : sizeT P t = some n) {b : Bool} (hb : isAggT P t = some b) (hn : b = false → n = 1) {xs : Array Value} {o : Nat} {f : Nat → Value}
    (ho : ∀ j, j < n → xs[o + j]? = some (f j)) : ∃ X, (∀ w, (part t xs o).run P w = .ok X w) ∧ IsV P t X n f := by
  cases b with
  | true =>
    refine ⟨.agg (xs.extract o (o + n)), fun w => by simp [part, run_isAgg hb, run_size hs], .inl ⟨hb, _, rfl, ?_, fun j hj => ?_⟩⟩
    · rw [Array.size_extract]
      rcases Nat.eq_zero_or_pos n with h0 | h0
      · subst h0; omega
      · have := ho (n - 1) (by omega)
        have hlt : o + (n - 1) < xs.size := by
          rcases Nat.lt_or_ge (o + (n - 1)) xs.size with h | h
          · exact h
          · rw [Array.getElem?_eq_none h] at this; cases this
        omega
    · rw [Array.getElem?_extract]
      have := ho j hj
      have hlt : o + j < xs.size := by
        rcases Nat.lt_or_ge (o + j) xs.size with h | h
        · exact h
        · rw [Array.getElem?_eq_none h] at this; cases this
      rw [if_pos (by omega)]
      exact this
  | false =>
    have h1 := hn rfl
    subst h1
    have := ho 0 (by omega)
    rw [Nat.add_zero] at this
    exact ⟨f 0, fun w => by simp [part, run_isAgg hb, this], .inr ⟨hb, rfl, rfl⟩⟩

theorem toListEq {a : ByteArray} : a.toList = a.data.toList := ByteArray.toList_eq a

section
variable {P : Program} [Tb P]

theorem cellsOf_size {t : TypeId} {n : Nat} (h : sizeT P t = some n) : P.cellsOf t = n := by
  obtain ⟨i, h1, h2⟩ := sizeT_info h
  simp [Program.cellsOf, h1, h2]

theorem flat_rep {α : Type} (ks : List α) : ∀ n, (List.replicate n ks).flatten.length = n * ks.length
  | 0 => by simp
  | n + 1 => by rw [List.replicate_succ, List.flatten_cons, List.length_append, flat_rep ks n, Nat.add_mul]; omega

theorem flat_get {α : Type} (ks : List α) : ∀ (n i j : Nat), i < n → j < ks.length → (List.replicate n ks).flatten[i * ks.length + j]? = ks[j]?
  | 0, i, j, h, _ => by omega
  | n + 1, 0, j, _, hj => by rw [List.replicate_succ, List.flatten_cons, Nat.zero_mul, Nat.zero_add, List.getElem?_append_left hj]
  | n + 1, i + 1, j, hi, hj => by
    rw [List.replicate_succ, List.flatten_cons, List.getElem?_append_right (by rw [Nat.add_mul]; omega), show (i + 1) * ks.length + j - ks.length = i * ks.length + j by rw [Nat.add_mul]; omega]
    exact flat_get ks n i j (by omega) hj

/-- A kind list's length is its type's size; a type of one cell that is no struct and no array. -/
theorem kindsT_size : ∀ (q : Nat) (t : TypeId) (ks : List LK), kindsT P q t = some ks → sizeT P t = some ks.length ∧ ∃ b, isAggT P t = some b ∧ (b = false → ks.length = 1)
  | 0, _, _, h => by simp [kindsT] at h
  | q + 1, t, ks, h => by
    unfold kindsT at h
    unfold isAggT
    split at h
    · rename_i hu; simp only [Bool.cond_eq_ite, decide_eq_true_eq] at h; split at h <;> simp at h; subst h; exact ⟨by simpa using ‹_›, false, by simp [hu], fun _ => rfl⟩
    · rename_i hu; simp only [Bool.cond_eq_ite, decide_eq_true_eq] at h; split at h <;> simp at h; subst h; exact ⟨by simpa using ‹_›, false, by simp [hu], fun _ => rfl⟩
    · rename_i hu; simp only [Bool.cond_eq_ite, decide_eq_true_eq] at h; split at h <;> simp at h; subst h; exact ⟨by simpa using ‹_›, false, by simp [hu], fun _ => rfl⟩
    · rename_i fs hu
      split at h
      · simp only [Bool.cond_eq_ite, Bool.and_eq_true, decide_eq_true_eq] at h
        split at h
        · rename_i hc; simp at h; subst h; exact ⟨hc.2, true, by simp [hu], fun h => by cases h⟩
        · cases h
      · cases h
    · rename_i n e hu
      split at h
      · simp only [Bool.cond_eq_ite, decide_eq_true_eq] at h
        split at h
        · rename_i hc; simp at h; subst h; exact ⟨hc, true, by simp [hu], fun h => by cases h⟩
        · cases h
      · cases h
    · cases h

/-- The cells told by f and g have the kinds. -/
def Fits (ks : List LK) (f : Nat → Value) : Prop := ∀ j k, ks[j]? = some k → cellFit k (f j) = true

theorem run_items {d : Nat} {e : TypeId} {ks : List LK} (xs ys : Array Value) (f g : Nat → Value) (hs : sizeT P e = some ks.length) {b : Bool} (hb : isAggT P e = some b) (hn : b = false → ks.length = 1)
    (IH : ∀ (X Y : Value) (f g : Nat → Value), IsV P e X ks.length f → IsV P e Y ks.length g → Fits ks f → Fits ks g →
      ∃ r : Bool, (∀ w, (Op.equalIn d e X Y).run P w = .ok r w) ∧ (r = true ↔ ∀ j, j < ks.length → eqCell (f j) (g j) = true)) :
    ∀ (is : List Nat), (∀ i ∈ is, ∀ j, j < ks.length → xs[i * ks.length + j]? = some (f (i * ks.length + j)) ∧ ys[i * ks.length + j]? = some (g (i * ks.length + j))) →
      (∀ i ∈ is, Fits ks (fun j => f (i * ks.length + j)) ∧ Fits ks (fun j => g (i * ks.length + j))) →
      ∃ r : Bool, (∀ w, (Op.eqItems d e ks.length xs ys is).run P w = .ok r w) ∧ (r = true ↔ ∀ i ∈ is, ∀ j, j < ks.length → eqCell (f (i * ks.length + j)) (g (i * ks.length + j)) = true)
  | [], _, _ => ⟨true, fun w => by simp [Op.eqItems], by simp⟩
  | i :: is, h, hf => by
    obtain ⟨X, hX, iX⟩ := run_part_is hs hb hn (xs := xs) (o := i * ks.length) (f := fun j => f (i * ks.length + j)) (fun j hj => (h i (by simp) j hj).1)
    obtain ⟨Y, hY, iY⟩ := run_part_is hs hb hn (xs := ys) (o := i * ks.length) (f := fun j => g (i * ks.length + j)) (fun j hj => (h i (by simp) j hj).2)
    obtain ⟨r, hr, hiff⟩ := IH X Y _ _ iX iY (hf i (by simp)).1 (hf i (by simp)).2
    obtain ⟨r', hr', hiff'⟩ := run_items xs ys f g hs hb hn IH is (fun i' hi' => h i' (by simp [hi'])) (fun i' hi' => hf i' (by simp [hi']))
    cases r with
    | false =>
      refine ⟨false, fun w => by simp [Op.eqItems, hX w, hY w, hr w], ?_⟩
      constructor
      · intro h; cases h
      · intro hh; exact hiff.2 (hh i (by simp))
    | true =>
      refine ⟨r', fun w => by simp [Op.eqItems, hX w, hY w, hr w, hr' w], ?_⟩
      rw [hiff']
      constructor
      · intro hh i' hi'
        rcases List.mem_cons.1 hi' with e1 | e1
        · subst e1; exact hiff.1 rfl
        · exact hh i' e1
      · intro hh i' hi'; exact hh i' (by simp [hi'])

mutual
theorem run_eqT : ∀ (q d : Nat) (t : TypeId) (ks : List LK), q ≤ d → kindsT P q t = some ks → ∀ (X Y : Value) (f g : Nat → Value), IsV P t X ks.length f → IsV P t Y ks.length g → Fits ks f → Fits ks g →
    ∃ r : Bool, (∀ w, (Op.equalIn d t X Y).run P w = .ok r w) ∧ (r = true ↔ ∀ j, j < ks.length → eqCell (f j) (g j) = true)
  | 0, _, _, _, _, h => by simp [kindsT] at h
  | q + 1, 0, _, _, hq, _ => by omega
  | q + 1, d + 1, t, ks, hq, h => by
    intro X Y f g iX iY hf hg
    obtain ⟨hsz, b, hb, hb1⟩ := kindsT_size (q + 1) t ks h
    have h' := h
    unfold kindsT at h'
    have one : b = false → X = f 0 ∧ Y = g 0 := fun hh => by
      subst hh
      rcases iX with ⟨h1, _⟩ | ⟨_, _, h1⟩
      · rw [hb] at h1; cases h1
      · rcases iY with ⟨h2, _⟩ | ⟨_, _, h2⟩
        · rw [hb] at h2; cases h2
        · exact ⟨h1, h2⟩
    have agg : b = true → ∃ xs ys, X = .agg xs ∧ Y = .agg ys ∧ (∀ j, j < ks.length → xs[j]? = some (f j)) ∧ (∀ j, j < ks.length → ys[j]? = some (g j)) := fun hh => by
      subst hh
      rcases iX with ⟨_, xs, e1, _, h1⟩ | ⟨h1, _⟩
      · rcases iY with ⟨_, ys, e2, _, h2⟩ | ⟨h2, _⟩
        · exact ⟨xs, ys, e1, e2, h1, h2⟩
        · rw [hb] at h2; cases h2
      · rw [hb] at h1; cases h1
    unfold isAggT at hb
    split at h'
    · rename_i hu
      simp only [Bool.cond_eq_ite, decide_eq_true_eq] at h'
      split at h' <;> simp at h'
      subst h'
      simp [hu] at hb
      obtain ⟨eX, eY⟩ := one hb
      have f0 := hf 0 .b (by simp)
      have g0 := hg 0 .b (by simp)
      rw [← eX] at f0
      rw [← eY] at g0
      cases X <;> simp [cellFit] at f0
      cases Y <;> simp [cellFit] at g0
      rename_i a c
      refine ⟨a == c, fun w => run_equalIn_bool w d t a c hu, ?_⟩
      simp [← eX, ← eY, eqCell]
    · rename_i k hu
      simp only [Bool.cond_eq_ite, decide_eq_true_eq] at h'
      split at h' <;> simp at h'
      subst h'
      simp [hu] at hb
      obtain ⟨eX, eY⟩ := one hb
      have f0 := hf 0 (.i k) (by simp)
      have g0 := hg 0 (.i k) (by simp)
      rw [← eX] at f0
      rw [← eY] at g0
      cases X <;> simp [cellFit] at f0
      cases Y <;> simp [cellFit] at g0
      rename_i k1 a k2 c
      rw [ikEq_iff] at f0 g0
      subst f0
      subst g0
      refine ⟨a == c, fun w => run_equalIn_int w d t _ _ a c hu, ?_⟩
      simp [← eX, ← eY, eqCell]
    · rename_i hu
      simp only [Bool.cond_eq_ite, decide_eq_true_eq] at h'
      split at h' <;> simp at h'
      subst h'
      simp [hu] at hb
      obtain ⟨eX, eY⟩ := one hb
      have f0 := hf 0 .s (by simp)
      have g0 := hg 0 .s (by simp)
      rw [← eX] at f0
      rw [← eY] at g0
      cases X <;> simp [cellFit] at f0
      cases Y <;> simp [cellFit] at g0
      rename_i a c
      refine ⟨a.toList == c.toList, fun w => run_equalIn_string w d t a c hu, ?_⟩
      simp [← eX, ← eY, eqCell]
    · rename_i fs hu
      split at h'
      · rename_i ks' hk
        simp only [Bool.cond_eq_ite, Bool.and_eq_true, Bool.not_eq_true', decide_eq_true_eq] at h'
        split at h'
        · rename_i hc
          simp at h'
          subst h'
          simp [hu] at hb
          obtain ⟨xs, ys, rfl, rfl, hx, hy⟩ := agg hb
          have hfs : P.fieldsOf t = fs := by simp [Program.fieldsOf, hu]
          obtain ⟨r, hr, hiff⟩ := run_eqF q d fs.toList 0 ks' (by omega) hk xs ys f g (fun j hj => by simpa using hx j hj) (fun j hj => by simpa using hy j hj) (by simpa [Fits] using hf) (by simpa [Fits] using hg)
          refine ⟨r, fun w => by rw [run_equalIn_struct w d t xs ys (by rw [hfs]; exact hu) hc.1, hfs]; exact hr w, ?_⟩
          simpa using hiff
        · cases h'
      · cases h'
    · rename_i n e hu
      split at h'
      · rename_i ks' hk
        simp only [Bool.cond_eq_ite, decide_eq_true_eq] at h'
        split at h'
        · rename_i hc
          simp at h'
          subst h'
          simp [hu] at hb
          obtain ⟨xs, ys, rfl, rfl, hx, hy⟩ := agg hb
          obtain ⟨hse, be, hbe, hbe1⟩ := kindsT_size q e ks' hk
          obtain ⟨i, hi, his⟩ := sizeT_info hse
          have hlt : ∀ i, i < n → ∀ j, j < ks'.length → i * ks'.length + j < (List.replicate n ks').flatten.length := fun i hi j hj => by
            rw [flat_rep]
            have : (i + 1) * ks'.length ≤ n * ks'.length := Nat.mul_le_mul_right _ hi
            rw [Nat.add_mul] at this; omega
          obtain ⟨r, hr, hiff⟩ := run_items xs ys f g hse hbe hbe1 (run_eqT q d e ks' (by omega) hk) (List.range n)
            (fun i hi j hj => ⟨hx _ (hlt i (List.mem_range.1 hi) j hj), hy _ (hlt i (List.mem_range.1 hi) j hj)⟩)
            (fun i hi => ⟨fun j k hk => by
                have hj : j < ks'.length := by
                  rcases Nat.lt_or_ge j ks'.length with h | h
                  · exact h
                  · rw [List.getElem?_eq_none h] at hk; cases hk
                exact hf _ k (by rw [flat_get ks' n i j (List.mem_range.1 hi) hj]; exact hk), fun j k hk => by
                have hj : j < ks'.length := by
                  rcases Nat.lt_or_ge j ks'.length with h | h
                  · exact h
                  · rw [List.getElem?_eq_none h] at hk; cases hk
                exact hg _ k (by rw [flat_get ks' n i j (List.mem_range.1 hi) hj]; exact hk)⟩)
          refine ⟨r, fun w => by rw [run_equalIn_array w d xs ys hu hi, cellsOf_size hse]; exact hr w, ?_⟩
          rw [hiff, flat_rep]
          constructor
          · intro hh j hj
            rcases Nat.eq_zero_or_pos ks'.length with h0 | h0
            · rw [h0] at hj; omega
            · have := hh (j / ks'.length) (List.mem_range.2 (Nat.div_lt_of_lt_mul (by rw [Nat.mul_comm]; exact hj))) (j % ks'.length) (Nat.mod_lt _ h0)
              rwa [Nat.mul_comm, Nat.div_add_mod] at this
          · intro hh i hi j hj
            have := hlt i (List.mem_range.1 hi) j hj
            rw [flat_rep] at this
            exact hh _ this
        · cases h'
      · cases h'
    · cases h'
theorem run_eqF : ∀ (q d : Nat) (fs : List Field) (o : Nat) (ks : List LK), q ≤ d → kindsF P q fs o = some ks → ∀ (xs ys : Array Value) (f g : Nat → Value),
    (∀ j, j < ks.length → xs[o + j]? = some (f (o + j))) → (∀ j, j < ks.length → ys[o + j]? = some (g (o + j))) → Fits ks (fun j => f (o + j)) → Fits ks (fun j => g (o + j)) →
    ∃ r : Bool, (∀ w, (Op.eqFields d xs ys fs).run P w = .ok r w) ∧ (r = true ↔ ∀ j, j < ks.length → eqCell (f (o + j)) (g (o + j)) = true)
  | 0, _, _, _, _, _, h => by simp [kindsF] at h
  | q + 1, 0, _, _, _, hq, _ => by omega
  | q + 1, d + 1, [], o, ks, _, h => by
    intro xs ys f g _ _ _ _
    simp [kindsF] at h
    subst h
    exact ⟨true, fun w => by simp [Op.eqFields], by simp⟩
  | q + 1, d + 1, fd :: r, o, ks, hq, h => by
    intro xs ys f g hx hy hf hg
    simp only [kindsF] at h
    split at h
    · rename_i ks1 ls hk hl
      simp only [Bool.cond_eq_ite, Bool.and_eq_true, decide_eq_true_eq, beq_iff] at h
      split at h
      · rename_i hc
        simp at h
        subst h
        obtain ⟨hn, ho, hc1⟩ := hc
        obtain ⟨hse, be, hbe, hbe1⟩ := kindsT_size q fd.type ks1 hk
        obtain ⟨X, hX, iX⟩ := run_part_is hse hbe hbe1 (xs := xs) (o := fd.offset) (f := fun j => f (o + j)) (fun j hj => by rw [ho]; exact hx j (by simp; omega))
        obtain ⟨Y, hY, iY⟩ := run_part_is hse hbe hbe1 (xs := ys) (o := fd.offset) (f := fun j => g (o + j)) (fun j hj => by rw [ho]; exact hy j (by simp; omega))
        have gt : ∀ j k, ks1[j]? = some k → (ks1 ++ ls)[j]? = some k := fun j k hk => by
          have hj : j < ks1.length := by
            rcases Nat.lt_or_ge j ks1.length with h | h
            · exact h
            · rw [List.getElem?_eq_none h] at hk; cases hk
          rw [List.getElem?_append_left hj]; exact hk
        have gt2 : ∀ j k, ls[j]? = some k → (ks1 ++ ls)[ks1.length + j]? = some k := fun j k hk => by
          rw [List.getElem?_append_right (by omega), show ks1.length + j - ks1.length = j by omega]; exact hk
        obtain ⟨r1, hr1, hiff1⟩ := run_eqT q (d + 1) fd.type ks1 (by omega) hk X Y _ _ iX iY (fun j k hk => hf j k (gt j k hk)) (fun j k hk => hg j k (gt j k hk))
        rw [hc1] at hl
        obtain ⟨r2, hr2, hiff2⟩ := run_eqF q (d + 1) r (o + ks1.length) ls (by omega) hl xs ys f g (fun j hj => by rw [Nat.add_assoc]; exact hx _ (by simp; omega)) (fun j hj => by rw [Nat.add_assoc]; exact hy _ (by simp; omega))
          (fun j k hk => by simpa [Nat.add_assoc] using hf _ k (gt2 j k hk)) (fun j k hk => by simpa [Nat.add_assoc] using hg _ k (gt2 j k hk))
        cases r1 with
        | false =>
          refine ⟨false, fun w => by simp [Op.eqFields, hn, hX w, hY w, hr1 w], ?_⟩
          constructor
          · intro h; cases h
          · intro hh; exact hiff1.2 (fun j hj => hh j (by simp; omega))
        | true =>
          refine ⟨r2, fun w => by simp [Op.eqFields, hn, hX w, hY w, hr1 w, hr2 w], ?_⟩
          rw [hiff2]
          constructor
          · intro hh j hj
            by_cases hj1 : j < ks1.length
            · exact hiff1.1 rfl j hj1
            · have := hh (j - ks1.length) (by simp at hj; omega)
              rwa [show o + ks1.length + (j - ks1.length) = o + j by omega] at this
          · intro hh j hj
            rw [Nat.add_assoc]
            exact hh _ (by simp; omega)
      · cases h
    · cases h
end

end
end Go.Proofs.YteionboacdkfjaaDoor.X
