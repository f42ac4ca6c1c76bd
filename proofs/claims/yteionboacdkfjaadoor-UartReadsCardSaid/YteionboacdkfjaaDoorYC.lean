/-
  X, part C: the plain laws of stretches of cells and of the tree.
-/
import Derived.Test.YteionboacdkfjaaDoorYB
namespace Go.Proofs.YteionboacdkfjaaDoor.X

theorem blt_iff {a b : Nat} : (Nat.blt a b = true) ↔ a < b := by simp [Nat.blt]; omega
theorem ble_iff {a b : Nat} : (Nat.ble a b = true) ↔ a ≤ b := by simp
theorem beq_iff {a b : Nat} : (Nat.beq a b = true) ↔ a = b := by simp

theorem cat_lt : ∀ (c : List Seg) (j : Nat) (s : S), cat c j = some s → j < csize c
  | [], _, _, h => by simp [cat] at h
  | x :: r, j, s, h => by
    simp only [cat, Bool.cond_eq_ite, blt_iff] at h
    simp only [csize]
    split at h
    · omega
    · have := cat_lt r _ s h; omega

theorem cat_some : ∀ (c : List Seg) (j : Nat), j < csize c → ∃ s, cat c j = some s
  | [], _, h => by simp [csize] at h
  | x :: r, j, h => by
    simp only [csize] at h
    simp only [cat, Bool.cond_eq_ite, blt_iff]
    split
    · exact ⟨_, rfl⟩
    · exact cat_some r _ (by omega)

theorem cat_none (c : List Seg) (j : Nat) (h : csize c ≤ j) : cat c j = none := by
  cases hc : cat c j with
  | none => rfl
  | some s => have := cat_lt c j s hc; omega

theorem segAt_spec : ∀ (c : List Seg) (o : Nat) (s : Seg), segAt c o = some s → o + s.size ≤ csize c ∧ ∀ j, j < s.size → cat c (o + j) = some (s.at j)
  | [], _, _, h => by simp [segAt] at h
  | x :: r, o, s, h => by
    simp only [segAt, Bool.cond_eq_ite, beq_iff, ble_iff] at h
    simp only [csize]
    split at h
    · rename_i h0
      subst h0
      simp only [Option.some.injEq] at h
      subst h
      refine ⟨by omega, fun j hj => ?_⟩
      simp only [cat, Bool.cond_eq_ite, blt_iff, Nat.zero_add]
      rw [if_pos hj]
    · split at h
      · rename_i h0 h1
        obtain ⟨h2, h3⟩ := segAt_spec r _ s h
        refine ⟨by omega, fun j hj => ?_⟩
        simp only [cat, Bool.cond_eq_ite, blt_iff]
        rw [if_neg (by omega)]
        have := h3 j hj
        rw [show o + j - x.size = o - x.size + j by omega]
        exact this
      · cases h

theorem drop_spec (x : Seg) (d : Nat) (h0 : 0 < d) (h : d < x.size) : (x.drop d).size = x.size - d ∧ ∀ j, j < x.size - d → (x.drop d).at j = x.at (d + j) := by
  cases x with
  | one v => simp [Seg.size] at h; omega
  | run k n f => exact ⟨rfl, fun j _ => by simp [Seg.drop, Seg.at, Nat.add_comm]⟩
  | rows n m f =>
    simp only [Seg.size] at h
    refine ⟨by simp [Seg.drop, Seg.size], fun j hj => ?_⟩
    simp only [Seg.size] at hj
    simp only [Seg.drop, Seg.at]
    rw [Nat.mod_eq_of_lt hj, Nat.add_comm]

theorem take_spec (x : Seg) (n : Nat) (h0 : 0 < n) (h : n < x.size) : (x.take n).size = n ∧ ∀ j, j < n → (x.take n).at j = x.at j := by
  cases x with
  | one v => simp [Seg.size] at h; omega
  | run k m f => exact ⟨rfl, fun j _ => rfl⟩
  | rows a m f =>
    refine ⟨by simp [Seg.take, Seg.size], fun j hj => ?_⟩
    simp only [Seg.take, Seg.at]
    rw [Nat.mod_eq_of_lt hj]

theorem cdrop_spec : ∀ (c : List Seg) (o : Nat), csize (cdrop c o) = csize c - o ∧ ∀ j, cat (cdrop c o) j = cat c (o + j)
  | [], o => ⟨by simp [cdrop, csize], fun j => by simp [cdrop, cat]⟩
  | x :: r, o => by
    simp only [cdrop, Bool.cond_eq_ite, beq_iff, ble_iff]
    split
    · rename_i h; subst h; exact ⟨by simp, fun j => by simp⟩
    · split
      · rename_i h0 h1
        obtain ⟨h2, h3⟩ := cdrop_spec r (o - x.size)
        refine ⟨by simp only [csize]; omega, fun j => ?_⟩
        rw [h3]
        simp only [cat, Bool.cond_eq_ite, blt_iff]
        rw [if_neg (by omega), show o - x.size + j = o + j - x.size by omega]
      · rename_i h0 h1
        obtain ⟨h2, h3⟩ := drop_spec x o (by omega) (by omega)
        refine ⟨by simp only [csize, h2]; omega, fun j => ?_⟩
        simp only [cat, Bool.cond_eq_ite, blt_iff, h2]
        by_cases hj : j < x.size - o
        · rw [if_pos hj, if_pos (by omega), h3 j hj]
        · rw [if_neg hj, if_neg (by omega), show j - (x.size - o) = o + j - x.size by omega]

theorem ctake_spec : ∀ (c : List Seg) (n : Nat), csize (ctake c n) = min n (csize c) ∧ ∀ j, j < n → cat (ctake c n) j = cat c j
  | [], n => ⟨by simp [ctake, csize], fun j _ => by simp [ctake]⟩
  | x :: r, n => by
    simp only [ctake, Bool.cond_eq_ite, beq_iff, ble_iff]
    split
    · rename_i h; subst h; exact ⟨by simp [csize], fun j hj => by omega⟩
    · split
      · rename_i h0 h1
        obtain ⟨h2, h3⟩ := ctake_spec r (n - x.size)
        refine ⟨by simp only [csize, h2]; omega, fun j hj => ?_⟩
        simp only [cat, Bool.cond_eq_ite, blt_iff]
        split
        · rfl
        · exact h3 _ (by omega)
      · rename_i h0 h1
        obtain ⟨h2, h3⟩ := take_spec x n (by omega) (by omega)
        refine ⟨by simp only [csize, h2]; omega, fun j hj => ?_⟩
        simp only [cat, Bool.cond_eq_ite, blt_iff, h2]
        rw [if_pos hj, if_pos (by omega), h3 j hj]

theorem csize_append : ∀ (a b : List Seg), csize (a ++ b) = csize a + csize b
  | [], b => by simp [csize]
  | x :: r, b => by simp only [List.cons_append, csize, csize_append r b]; omega

theorem cat_append : ∀ (a b : List Seg) (j : Nat), cat (a ++ b) j = if j < csize a then cat a j else cat b (j - csize a)
  | [], b, j => by simp [csize]
  | x :: r, b, j => by
    simp only [List.cons_append, cat, csize, Bool.cond_eq_ite, blt_iff, cat_append r b]
    by_cases h : j < x.size
    · rw [if_pos h, if_pos (by omega), if_pos h]
    · rw [if_neg h]
      by_cases h2 : j - x.size < csize r
      · rw [if_pos h2, if_pos (by omega), if_neg h]
      · rw [if_neg h2, if_neg (by omega), show j - x.size - csize r = j - (x.size + csize r) by omega]

theorem csub_spec (c : List Seg) (o n : Nat) (h : o + n ≤ csize c) : csize (csub c o n) = n ∧ ∀ j, j < n → cat (csub c o n) j = cat c (o + j) := by
  obtain ⟨h1, h2⟩ := cdrop_spec c o
  obtain ⟨h3, h4⟩ := ctake_spec (cdrop c o) n
  exact ⟨by unfold csub; rw [h3, h1]; omega, fun j hj => by unfold csub; rw [h4 j hj, h2]⟩

theorem cupd_spec (c : List Seg) (o : Nat) (x : List Seg) (h : o + csize x ≤ csize c) :
    csize (cupd c o x) = csize c ∧ ∀ j, cat (cupd c o x) j = if o ≤ j ∧ j < o + csize x then cat x (j - o) else cat c j := by
  obtain ⟨h1, h2⟩ := ctake_spec c o
  obtain ⟨h3, h4⟩ := cdrop_spec c (o + csize x)
  unfold cupd
  refine ⟨by rw [csize_append, csize_append, h1, h3]; omega, fun j => ?_⟩
  rw [cat_append, cat_append, h1, h4]
  have hm : min o (csize c) = o := by omega
  rw [hm]
  by_cases a : j < o
  · rw [if_pos a, if_neg (by omega), h2 j a]
  · rw [if_neg a]
    by_cases b : j - o < csize x
    · rw [if_pos b, if_pos (by omega)]
    · rw [if_neg b, if_neg (by omega), show o + csize x + (j - o - csize x) = j by omega]

theorem segSet_spec : ∀ (c : List Seg) (o : Nat) (s x : Seg), segAt c o = some s → x.size = s.size →
    csize (segSet c o x) = csize c ∧ ∀ j, cat (segSet c o x) j = if o ≤ j ∧ j < o + s.size then some (x.at (j - o)) else cat c j
  | [], _, _, _, h, _ => by simp [segAt] at h
  | y :: r, o, s, x, h, hx => by
    simp only [segAt, Bool.cond_eq_ite, beq_iff, ble_iff] at h
    simp only [segSet, Bool.cond_eq_ite, beq_iff]
    split at h
    · rename_i h0
      subst h0
      simp only [Option.some.injEq] at h
      subst h
      rw [if_pos rfl]
      refine ⟨by simp only [csize]; omega, fun j => ?_⟩
      simp only [cat, Bool.cond_eq_ite, blt_iff, hx]
      by_cases hj : j < y.size
      · rw [if_pos hj, if_pos (by omega)]; simp
      · rw [if_neg hj, if_neg (by omega), if_neg hj]
    · split at h
      · rename_i h0 h1
        rw [if_neg h0]
        obtain ⟨h2, h3⟩ := segSet_spec r _ s x h hx
        refine ⟨by simp only [csize, h2], fun j => ?_⟩
        simp only [cat, Bool.cond_eq_ite, blt_iff, h3]
        by_cases hj : j < y.size
        · rw [if_pos hj, if_neg (by omega), if_pos hj]
        · rw [if_neg hj, if_neg hj]
          by_cases hq : o ≤ j ∧ j < o + s.size
          · rw [if_pos hq, if_pos (by omega), show j - y.size - (o - y.size) = j - o by omega]
          · rw [if_neg hq, if_neg (by omega)]
      · cases h

theorem some_pair {α β : Type} {a c : α} {b d : β} (h : some (a, b) = some (c, d)) : a = c ∧ b = d := by simpa using h

theorem mapT {c : Option S} {b : Bool} {v : S} (h : (c.map fun v => (true, v)) = some (b, v)) : c = some v := by
  cases c <;> simp at h
  rw [h.2]

theorem ones_spec (k : IntKind) : ∀ (l : List Seg) (n i : Nat), n < (ones k l).length → cat l n = some (.i k (nthI (i + n) i (ones k l)))
  | [], n, i, h => by simp [ones] at h
  | .one (.i k' x) :: r, n, i, h => by
    simp only [ones, Bool.cond_eq_ite, ikEq, decide_eq_true_eq] at h ⊢
    split at h
    · rename_i hk
      subst hk
      rw [if_pos rfl]
      simp only [cat, Bool.cond_eq_ite, blt_iff, Seg.size, nthI, beq_iff]
      by_cases h0 : n = 0
      · subst h0; rw [if_pos (by omega), if_pos (by omega)]; rfl
      · rw [if_neg (by omega), if_neg (by omega), ones_spec k' r (n - 1) (i + 1) (by simp only [List.length_cons] at h; omega), show i + 1 + (n - 1) = i + n by omega]
    · simp at h
  | .one (.b _) :: r, n, i, h => by simp [ones] at h
  | .one (.s _) :: r, n, i, h => by simp [ones] at h
  | .one (.p _) :: r, n, i, h => by simp [ones] at h
  | .one (.sl _ _ _) :: r, n, i, h => by simp [ones] at h
  | .one (.fn _ _) :: r, n, i, h => by simp [ones] at h
  | .one .nf :: r, n, i, h => by simp [ones] at h
  | .one .ni :: r, n, i, h => by simp [ones] at h
  | .one (.ifc _ _) :: r, n, i, h => by simp [ones] at h
  | .one (.rt _ _ _) :: r, n, i, h => by simp [ones] at h
  | .run _ _ _ :: r, n, i, h => by simp [ones] at h
  | .rows _ _ _ :: r, n, i, h => by simp [ones] at h

theorem rdS_spec {c : List Seg} {a : AA} {b : Bool} {v : S} (h : rdS c a = some (b, v)) (hb : b = true) : cat c a.real = some v := by
  subst hb
  obtain ⟨id, o, ix⟩ := a
  cases ix with
  | none => simp only [rdS] at h; simpa [AA.real] using mapT h
  | some q =>
    obtain ⟨r, st, f⟩ := q
    simp only [AA.real]
    simp only [rdS] at h
    split at h
    · rename_i kd n g hs
      simp only [Bool.cond_eq_ite, Bool.and_eq_true, beq_iff] at h
      split at h
      · rename_i h1
        obtain ⟨h2, h3⟩ := some_pair h
        obtain ⟨h4, h5⟩ := segAt_spec c o _ hs
        rw [blt_iff] at h2
        have := h5 r (by simpa [Seg.size] using h2)
        rw [h1.1, h1.2, Nat.mul_one, Nat.add_zero, this, ← h3]
        rfl
      · exact mapT h
    · rename_i n m g hs
      simp only [Bool.cond_eq_ite, Bool.and_eq_true, beq_iff, blt_iff] at h
      split at h
      · rename_i h1
        obtain ⟨h2, h3⟩ := some_pair h
        obtain ⟨h4, h5⟩ := segAt_spec c o _ hs
        rw [blt_iff] at h2
        obtain ⟨h6, h7⟩ := h1
        subst h6
        have hlt : r * st + f < n * st := by
          have : (r + 1) * st ≤ n * st := Nat.mul_le_mul_right _ h2
          rw [Nat.add_mul] at this; omega
        have := h5 (r * st + f) (by simpa [Seg.size] using hlt)
        rw [this, ← h3]
        simp only [Seg.at]
        rw [show (r * st + f) / st = r from by rw [Nat.mul_comm, Nat.mul_add_div (by omega), Nat.div_eq_of_lt h7]; omega, show (r * st + f) % st = f from by rw [Nat.mul_comm, Nat.mul_add_mod, Nat.mod_eq_of_lt h7]]
      · exact mapT h
    · rename_i kd x hs
      simp only [Bool.cond_eq_ite, Bool.and_eq_true, beq_iff] at h
      split at h
      · rename_i h1
        rw [spine_eq] at h
        obtain ⟨h2, h3⟩ := some_pair h
        rw [blt_iff] at h2
        have := ones_spec kd (cdrop c o) r 0 h2
        rw [(cdrop_spec c o).2, Nat.zero_add] at this
        rw [h1.1, h1.2, Nat.mul_one, Nat.add_zero, this, ← h3]
      · exact mapT h
    · exact mapT h

theorem mkRow_spec (g : Nat → S) : ∀ (n f : Nat), csize (mkRow g f n) = n ∧ ∀ j, j < n → cat (mkRow g f n) j = some (g (f + j))
  | 0, f => ⟨rfl, fun j hj => by omega⟩
  | n + 1, f => by
    obtain ⟨h1, h2⟩ := mkRow_spec g n (f + 1)
    refine ⟨by simp only [mkRow, csize, h1, Seg.size]; omega, fun j hj => ?_⟩
    simp only [mkRow, cat, Bool.cond_eq_ite, blt_iff, Seg.size]
    by_cases h0 : j < 1
    · rw [if_pos h0]; simp only [Seg.at]; rw [show f + j = f by omega]
    · rw [if_neg h0, h2 _ (by omega), show f + 1 + (j - 1) = f + j by omega]

theorem subC_spec {c : List Seg} {o n : Nat} {b : Bool} {x : List Seg} (h : subC c o n = some (b, x)) : o + n ≤ csize c ∧ csize x = n ∧ ∀ j, j < n → cat x j = cat c (o + j) := by
  simp only [subC, Bool.cond_eq_ite, ble_iff] at h
  split at h
  · rename_i h1
    obtain ⟨_, h3⟩ := some_pair h
    obtain ⟨h4, h5⟩ := csub_spec c o n h1
    rw [← h3]
    exact ⟨h1, h4, h5⟩
  · cases h

theorem rdC_spec {c : List Seg} {a : AA} {n : Nat} {b : Bool} {x : List Seg} (h : rdC c a n = some (b, x)) (hb : b = true) :
    csize x = n ∧ ∀ j, j < n → cat x j = cat c (a.real + j) := by
  subst hb
  obtain ⟨id, o, ix⟩ := a
  cases ix with
  | none => simp only [rdC] at h; exact (subC_spec h).2
  | some q =>
    obtain ⟨r, st, f⟩ := q
    simp only [AA.real]
    simp only [rdC] at h
    split at h
    · rename_i n' m g hs
      simp only [Bool.cond_eq_ite, Bool.and_eq_true, beq_iff, ble_iff] at h
      split at h
      · rename_i h1
        obtain ⟨h2, h3⟩ := some_pair h
        obtain ⟨h4, h5⟩ := segAt_spec c o _ hs
        rw [blt_iff] at h2
        obtain ⟨h6, h7⟩ := h1
        subst h6
        obtain ⟨h8, h9⟩ := mkRow_spec (g r) n f
        rw [← h3]
        refine ⟨h8, fun j hj => ?_⟩
        rw [h9 j hj]
        have hlt : r * st + (f + j) < n' * st := by
          have : (r + 1) * st ≤ n' * st := Nat.mul_le_mul_right _ h2
          rw [Nat.add_mul] at this; omega
        have := h5 (r * st + (f + j)) (by simpa [Seg.size] using hlt)
        rw [show o + (r * st + f) + j = o + (r * st + (f + j)) by omega, this]
        simp only [Seg.at]
        rw [show (r * st + (f + j)) / st = r from by rw [Nat.mul_comm, Nat.mul_add_div (by omega), Nat.div_eq_of_lt (by omega)]; omega, show (r * st + (f + j)) % st = f + j from by rw [Nat.mul_comm, Nat.mul_add_mod, Nat.mod_eq_of_lt (by omega)]]
      · exact (subC_spec h).2
    · exact (subC_spec h).2

theorem updC_spec {c : List Seg} {o : Nat} {x : List Seg} {b : Bool} {c' : List Seg} (h : updC c o x = some (b, c')) :
    o + csize x ≤ csize c ∧ csize c' = csize c ∧ ∀ j, cat c' j = if o ≤ j ∧ j < o + csize x then cat x (j - o) else cat c j := by
  simp only [updC, Bool.cond_eq_ite, ble_iff] at h
  split at h
  · rename_i h1
    obtain ⟨_, h3⟩ := some_pair h
    rw [← h3]
    exact ⟨h1, cupd_spec c o x h1⟩
  · cases h

theorem updC_one {c : List Seg} {o : Nat} {v : S} {b : Bool} {c' : List Seg} (h : updC c o [.one v] = some (b, c')) :
    o < csize c ∧ csize c' = csize c ∧ ∀ j, cat c' j = if j = o then some v else cat c j := by
  obtain ⟨h1, h2, h3⟩ := updC_spec h
  have hs : csize [Seg.one v] = 1 := rfl
  rw [hs] at h1 h3
  refine ⟨by omega, h2, fun j => ?_⟩
  rw [h3]
  by_cases hj : j = o
  · subst hj; rw [if_pos (by omega), if_pos rfl]; simp only [cat, Bool.cond_eq_ite, blt_iff, Seg.size]; rw [if_pos (by omega)]; rfl
  · rw [if_neg (by omega), if_neg hj]

theorem ikEq_iff {a b : IntKind} : (ikEq a b = true) ↔ a = b := by simp [ikEq]

theorem wrS_spec {c : List Seg} {a : AA} {v : S} {b : Bool} {c' : List Seg} (h : wrS c a v = some (b, c')) (hb : b = true) :
    a.real < csize c ∧ csize c' = csize c ∧ ∀ j, cat c' j = if j = a.real then some v else cat c j := by
  subst hb
  obtain ⟨id, o, ix⟩ := a
  cases ix with
  | none => simp only [wrS] at h; exact updC_one h
  | some q =>
    obtain ⟨r, st, f⟩ := q
    generalize hR : AA.real _ = R
    have hR' : R = o + (r * st + f) := hR.symm
    clear hR
    subst hR'
    simp only [wrS] at h
    split at h
    · rename_i kd n g kd' x hs
      rw [Bool.cond_eq_ite] at h
      simp only [Bool.and_eq_true, beq_iff, ikEq_iff] at h
      split at h
      · rename_i h1
        obtain ⟨h2, h3⟩ := some_pair h
        obtain ⟨h6, h7, h8⟩ := h1
        obtain ⟨h4, h5⟩ := segAt_spec c o _ hs
        rw [blt_iff] at h2
        simp only [Seg.size] at h4
        obtain ⟨h9, h10⟩ := segSet_spec c o _ (.run kd n (fun j => cond (Nat.beq j r) x (g j))) hs rfl
        rw [← h3]
        subst h6 h7 h8
        refine ⟨by omega, h9, fun j => ?_⟩
        rw [h10]
        simp only [Seg.size, Seg.at, Bool.cond_eq_ite, beq_iff]
        by_cases hq : o ≤ j ∧ j < o + n
        · rw [if_pos hq]
          by_cases hr : j - o = r
          · rw [if_pos hr, if_pos (by omega)]
          · rw [if_neg hr, if_neg (by omega)]
            have := h5 (j - o) (by simp only [Seg.size]; omega)
            rw [show o + (j - o) = j by omega] at this
            rw [this]; rfl
        · rw [if_neg hq, if_neg (by omega)]
      · exact updC_one h
    · rename_i v _ _ n m g hs
      rw [Bool.cond_eq_ite] at h
      simp only [Bool.and_eq_true, beq_iff, blt_iff] at h
      split at h
      · rename_i h1
        obtain ⟨h2, h3⟩ := some_pair h
        obtain ⟨h6, h7⟩ := h1
        obtain ⟨h4, h5⟩ := segAt_spec c o _ hs
        rw [blt_iff] at h2
        simp only [Seg.size] at h4
        obtain ⟨h9, h10⟩ := segSet_spec c o _ (.rows n m (fun i j => cond (Nat.beq i r && Nat.beq j f) v (g i j))) hs rfl
        rw [← h3]
        subst h6
        have hlt : r * st + f < n * st := by
          have : (r + 1) * st ≤ n * st := Nat.mul_le_mul_right _ h2
          rw [Nat.add_mul] at this; omega
        refine ⟨by omega, h9, fun j => ?_⟩
        rw [h10]
        simp only [Seg.size, Seg.at, Bool.cond_eq_ite, Bool.and_eq_true, beq_iff]
        by_cases hq : o ≤ j ∧ j < o + n * st
        · rw [if_pos hq]
          by_cases hr : j - o = r * st + f
          · rw [hr, if_pos ⟨by rw [Nat.mul_comm, Nat.mul_add_div (by omega), Nat.div_eq_of_lt h7]; omega, by rw [Nat.mul_comm, Nat.mul_add_mod, Nat.mod_eq_of_lt h7]⟩, if_pos (by omega)]
          · rw [if_neg (fun hh => hr (by have := Nat.div_add_mod (j - o) st; rw [hh.1, hh.2, Nat.mul_comm] at this; exact this.symm)), if_neg (by omega)]
            have := h5 (j - o) (by simp only [Seg.size]; omega)
            rw [show o + (j - o) = j by omega] at this
            rw [this]; rfl
        · rw [if_neg hq, if_neg (by omega)]
      · exact updC_one h
    · exact updC_one h

theorem wrC_spec {c : List Seg} {a : AA} {x : List Seg} {b : Bool} {c' : List Seg} (h : wrC c a x = some (b, c')) :
    a.real + csize x ≤ csize c ∧ csize c' = csize c ∧ ∀ j, cat c' j = if a.real ≤ j ∧ j < a.real + csize x then cat x (j - a.real) else cat c j :=
  updC_spec h

/-! The tree. -/
theorem T.get_setF {α : Type} (v : α) : ∀ (d : Nat) (t : T α) (i j : Nat), i < d → (T.setF d t i v).get j = if j = i then some v else t.get j
  | 0, _, i, _, h => by omega
  | d + 1, .l, i, j, h => by
    simp only [T.setF_l, T.setF_n, Bool.cond_eq_ite, beq_iff]
    split
    · rename_i h0
      subst h0
      simp only [T.get_n, T.get_l, Bool.cond_eq_ite, beq_iff]
      split
      · simp
      · split <;> simp
    · rename_i h0
      split
      · rename_i h1
        simp only [T.get_n, T.get_l, Bool.cond_eq_ite, beq_iff]
        rw [T.get_setF v d .l (i / 2) (j / 2) (by omega)]
        split
        · rename_i h2; rw [if_neg (by omega)]
        · split
          · rename_i h2 h3
            by_cases e : j = i
            · subst e; rw [if_pos rfl, if_pos rfl]
            · rw [if_neg (by omega), if_neg e]; rfl
          · rename_i h2 h3
            rw [if_neg (by omega)]
      · rename_i h1
        simp only [T.get_n, T.get_l, Bool.cond_eq_ite, beq_iff]
        rw [T.get_setF v d .l (i / 2 - 1) (j / 2 - 1) (by omega)]
        split
        · rename_i h2; rw [if_neg (by omega)]
        · split
          · rename_i h2 h3
            rw [if_neg (by omega)]
          · rename_i h2 h3
            by_cases e : j = i
            · subst e; rw [if_pos rfl, if_pos rfl]
            · rw [if_neg (by omega), if_neg e]; rfl
  | d + 1, .n a w b, i, j, h => by
    simp only [T.setF_l, T.setF_n, Bool.cond_eq_ite, beq_iff]
    split
    · rename_i h0
      subst h0
      simp only [T.get_n, T.get_l, Bool.cond_eq_ite, beq_iff]
      split
      · rename_i h2; rfl
      · rename_i h2; rfl
    · rename_i h0
      split
      · rename_i h1
        simp only [T.get_n, T.get_l, Bool.cond_eq_ite, beq_iff]
        rw [T.get_setF v d a (i / 2) (j / 2) (by omega)]
        split
        · rename_i h2; rw [if_neg (by omega)]
        · split
          · rename_i h2 h3
            by_cases e : j = i
            · subst e; rw [if_pos rfl, if_pos rfl]
            · rw [if_neg (by omega), if_neg e]
          · rename_i h2 h3
            rw [if_neg (by omega)]
      · rename_i h1
        simp only [T.get_n, T.get_l, Bool.cond_eq_ite, beq_iff]
        rw [T.get_setF v d b (i / 2 - 1) (j / 2 - 1) (by omega)]
        split
        · rename_i h2; rw [if_neg (by omega)]
        · split
          · rename_i h2 h3
            rw [if_neg (by omega)]
          · rename_i h2 h3
            by_cases e : j = i
            · subst e; rw [if_pos rfl, if_pos rfl]
            · rw [if_neg (by omega), if_neg e]

theorem T.get_set {α : Type} (t : T α) (i j : Nat) (v : α) : (t.set i v).get j = if j = i then some v else t.get j := T.get_setF v (i + 1) t i j (by omega)

theorem T.get_delF {α : Type} : ∀ (t : T α) (i j : Nat), (t.delF i).get j = if j = i then none else t.get j
  | .l, i, j => by simp [T.delF_l, T.get_l]
  | .n a w b, i, j => by
    simp only [T.delF_l, T.delF_n, Bool.cond_eq_ite, beq_iff]
    split
    · rename_i h0
      subst h0
      simp only [T.get_n, T.get_l, Bool.cond_eq_ite, beq_iff]
      split <;> rfl
    · rename_i h0
      split
      · rename_i h1
        simp only [T.get_n, T.get_l, Bool.cond_eq_ite, beq_iff]
        rw [T.get_delF a (i / 2) (j / 2)]
        split
        · rename_i h2; rw [if_neg (by omega)]
        · split
          · rename_i h2 h3
            by_cases e : j = i
            · subst e; rw [if_pos rfl, if_pos rfl]
            · rw [if_neg (by omega), if_neg e]
          · rename_i h2 h3
            rw [if_neg (by omega)]
      · rename_i h1
        simp only [T.get_n, T.get_l, Bool.cond_eq_ite, beq_iff]
        rw [T.get_delF b (i / 2 - 1) (j / 2 - 1)]
        split
        · rename_i h2; rw [if_neg (by omega)]
        · split
          · rename_i h2 h3
            rw [if_neg (by omega)]
          · rename_i h2 h3
            by_cases e : j = i
            · subst e; rw [if_pos rfl, if_pos rfl]
            · rw [if_neg (by omega), if_neg e]

/-! The table. -/
section
variable {P : Program} [Tb P]
theorem tyX_eq (t : TypeId) : tyX P t = mkTy P t := by
  unfold tyX
  by_cases h : t < Tb.n P
  · rw [blt_iff.2 h]
    have := congrArg (fun l => l[t]?) (Tb.ok (P := P))
    simp only [List.getElem?_map, List.getElem?_range h, Option.map_some, Option.some.injEq] at this
    rw [this]
  · rw [show Nat.blt t (Tb.n P) = false from Bool.eq_false_iff.2 fun q => h (blt_iff.1 q)]

theorem undX_eq (t : TypeId) : undX P t = P.underlying t := by unfold undX; rw [tyX_eq]; rfl
theorem szX_eq (t : TypeId) : szX P t = sizeT P t := by unfold szX; rw [tyX_eq]; rfl
theorem byX_eq (t : TypeId) : byX P t = bytesT P t := by unfold byX; rw [tyX_eq]; rfl
theorem zlX_eq (t : TypeId) : zlX P t = zlenT P t := by unfold zlX; rw [tyX_eq]; rfl
theorem zvX_eq (t : TypeId) : zvX P t = zeroV P t := by unfold zvX; rw [tyX_eq]; rfl
theorem agX_eq (t : TypeId) : agX P t = isAggT P t := by unfold agX; rw [tyX_eq]; rfl
theorem knX_eq (t : TypeId) : knX P t = kindsT P 40 t := by unfold knX; rw [tyX_eq]; rfl
theorem gdX_eq (t : TypeId) : gdX P t = P.eqGuardType P.depth t := by unfold gdX; rw [tyX_eq]; rfl
theorem ikX_eq (t : TypeId) : ikX P t = isInt P t := by unfold ikX isInt; rw [undX_eq]
end

end Go.Proofs.YteionboacdkfjaaDoor.X
