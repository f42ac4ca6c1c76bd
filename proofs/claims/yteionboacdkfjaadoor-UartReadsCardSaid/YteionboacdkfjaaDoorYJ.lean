/-
  X, part J: operations that make a block; 'append' and 'copy'.
-/
import Derived.Test.YteionboacdkfjaaDoorYI
import Derived.Laws.BitsLemmas
namespace Go.Proofs.YteionboacdkfjaaDoor.X
set_option linter.unusedSectionVars false

section
variable {P : Program} [Tb P] {μ : Mu} {A : Nat → Prop} {h : H} {w : World}

theorem cat_flat (z : List Seg) : ∀ (n : Nat), csize (List.replicate n z).flatten = n * csize z ∧ ∀ j, j < n * csize z → cat (List.replicate n z).flatten j = cat z (j % csize z)
  | 0 => ⟨by simp [csize], fun j hj => by simp at hj⟩
  | n + 1 => by
    obtain ⟨h1, h2⟩ := cat_flat z n
    rw [List.replicate_succ, List.flatten_cons]
    refine ⟨by rw [csize_append, h1, Nat.add_mul]; omega, fun j hj => ?_⟩
    rw [cat_append]
    split
    · rename_i h; rw [Nat.mod_eq_of_lt h]
    · rename_i h
      rw [Nat.add_mul] at hj
      rw [h2 _ (by omega), ← Nat.mod_eq_sub_mod (by omega)]

theorem cat_rep (z : S) : ∀ (n : Nat), csize (List.replicate n (Seg.one z)) = n ∧ ∀ j, j < n → cat (List.replicate n (Seg.one z)) j = some z
  | 0 => ⟨rfl, fun j hj => by omega⟩
  | n + 1 => by
    obtain ⟨h1, h2⟩ := cat_rep z n
    rw [List.replicate_succ]
    refine ⟨by simp only [csize, h1, Seg.size]; omega, fun j hj => ?_⟩
    rw [cat_cons]
    by_cases h0 : j < 1
    · rw [if_pos (by simpa [Seg.size] using h0)]; rfl
    · rw [if_neg (by simpa [Seg.size] using h0)]; exact h2 _ (by simp only [Seg.size]; omega)

theorem SR_upd {id : Nat} (hid : ¬ A id) (p : Place) {s : S} {x : Value} (hs : SR μ A s x) : SR (upd μ id p) (fun i => A i ∨ i = id) s x :=
  hs.mono (fun i hi => by have : i ≠ id := fun e => hid (e ▸ hi); simp [upd, this]) (fun i hi => .inl hi)
theorem VR_upd {id : Nat} (hid : ¬ A id) (p : Place) {s : V} {x : Value} (hs : VR μ A s x) : VR (upd μ id p) (fun i => A i ∨ i = id) s x :=
  hs.mono (fun i hi => by have : i ≠ id := fun e => hid (e ▸ hi); simp [upd, this]) (fun i hi => .inl hi)

theorem new_ptr (id b o fin : Nat) : SR (upd μ id ⟨b, o, fin⟩) (fun i => A i ∨ i = id) (.p (some ⟨id, 0, none⟩)) (.pointer (some ⟨b, o, none⟩)) := by
  simp [SR, AA.conc, AA.real, upd]
theorem new_sl (id b : Nat) (l c : Nat) (hl : l ≤ c) (o fin : Nat) : SR (upd μ id ⟨b, o, fin⟩) (fun i => A i ∨ i = id) (.sl (some ⟨id, 0, none⟩) l (.k c)) (.slice (some ⟨b, o, none⟩) l c) := by
  simp [SR, AA.conc, AA.real, upd, hl]
theorem new_slg (id b : Nat) (l c sz : Nat) (hl : l ≤ c) (o fin : Nat) (hf : c * sz ≤ fin) : SR (upd μ id ⟨b, o, fin⟩) (fun i => A i ∨ i = id) (.sl (some ⟨id, 0, none⟩) l (.g sz)) (.slice (some ⟨b, o, none⟩) l c) := by
  simp only [SR]
  exact ⟨.inr trivial, _, c, hl, rfl, .inr ⟨by simp [AA.conc, AA.real, upd], by simpa [AA.real, upd] using hf⟩⟩

theorem run_newVar (t : TypeId) (x : Value) : (newVar t x).run P w = .ok ⟨w.heap.size, 0, none⟩ (w.alloc (.cells x.cells t)) := by
  simp [newVar, newRow]

theorem madeCells_CR {z : S} {x : Value} (hz : SR μ A z x) (hx : x.cells = #[x]) (m : Nat) {c : List Seg} (hs : csize c = m) (hc : ∀ j, j < m → cat c j = some z) :
    CR μ A c ((Array.range m).map (x.cells[· % x.cells.size]!)) := by
  refine ⟨by simp [hs], fun j s hj => ?_⟩
  have hjm := cat_lt c j s hj
  rw [hc j (by omega)] at hj
  cases hj
  refine ⟨x, ?_, hz⟩
  have h1 : j % 1 = 0 := Nat.mod_one j
  simp [hx, show j < m by omega, h1]

theorem wrap_i64_in {x : Int} (h0 : -9223372036854775808 ≤ x) (h1 : x ≤ 9223372036854775807) : IntKind.i64.wrap x = x := by
  rw [IntKind.wrap_i64]
  omega

theorem alloc_ext (w : World) (c : Array Value) (el : TypeId) : Ext (fun _ _ => False) w (w.alloc (.cells c el)) := by
  have hold : ∀ b, b < w.heap.size → (w.alloc (.cells c el)).heap[b]? = w.heap[b]? := fun b hb => by
    show (w.heap.push _)[b]? = _
    rw [Array.getElem?_push, if_neg (by omega)]
  refine ⟨rfl, rfl, rfl, by simp, fun b hb _ => hold b hb, fun b q e fz hq => ⟨q, by rw [hold b (lt_of_some hq)]; exact hq, rfl, fun _ _ => rfl⟩, fun b x hb hx => ?_⟩
  have hlt : b < (w.heap.push (.cells c el)).size := lt_of_some hx
  rw [Array.size_push] at hlt
  have e : b = w.heap.size := by omega
  subst e
  have hx' : (w.heap.push (.cells c el))[w.heap.size]? = some x := hx
  rw [Array.getElem?_push, if_pos rfl] at hx'
  cases hx'
  exact ⟨_, _, rfl⟩

theorem allocC_ok (hr : HR μ A h w) {o : Oper} {e : Operand → Option V} {ρ : Operand → Value} (he : ∀ x v, e x = some v → VR μ A v (ρ x)) {id : Nat} (hid : ¬ A id) (hlo : h.lo ≤ id) {v : V} {c : Bool} {b : List Seg}
    (ha : allocC P e o.op id = some (c, v, b)) (hc : c = true) (nx : Nat) :
    ∃ z w' p, (execOp ρ o).run P w = .ok (.value z) w' ∧ VR (upd μ id p) (fun i => A i ∨ i = id) v z ∧ Step μ A h w (upd μ id p) (fun i => A i ∨ i = id) { m := h.m.set id ⟨b, false, false⟩, nx := nx, lo := h.lo } w' ∧ Ext (fun _ _ => False) w w' := by
  subst hc
  obtain ⟨dst, op, type, pos, after, guard⟩ := o
  replace ha : allocC P e op id = some (true, v, b) := ha
  have fin : ∀ (cells : Array Value) (el : TypeId), CR μ A b cells → Step μ A h w (upd μ id ⟨w.heap.size, 0, 0⟩) (fun i => A i ∨ i = id) { m := h.m.set id ⟨b, false, false⟩, nx := nx, lo := h.lo } (w.alloc (.cells cells el)) ∧ Ext (fun _ _ => False) w (w.alloc (.cells cells el)) := fun cells el hcr => by
    have := step_alloc hr hid hlo hcr (rest := #[]) el false 0 (Nat.zero_le _) nx
    exact ⟨by simpa using this, alloc_ext _ _ _⟩
  unfold allocC at ha
  try simp only [undX_eq, szX_eq, agX_eq, zvX_eq, knX_eq, gdX_eq, byX_eq, zlX_eq, ikX_eq] at ha
  split at ha
  case h_1 t =>
    obtain ⟨q, h1, h2⟩ := mapSome ha
    obtain ⟨u, h3, h4⟩ := Option.bind_eq_some_iff.1 h1
    simp only [Prod.mk.injEq] at h2
    obtain ⟨_, rfl, rfl⟩ := h2
    obtain ⟨x, hx, hv⟩ := zeroV_spec h3
    exact ⟨_, _, ⟨w.heap.size, 0, 0⟩, by simp [execOp, Instr.alloc, hx, run_newVar]; rfl, by simp only [VR]; exact new_ptr id _ _ _, fin _ t (content_CR (hv μ A) h4)⟩
  case h_2 t x =>
    obtain ⟨q, h1, h2⟩ := mapSome ha
    obtain ⟨u, h3, h4⟩ := Option.bind_eq_some_iff.1 h1
    simp only [Prod.mk.injEq] at h2
    obtain ⟨_, rfl, rfl⟩ := h2
    exact ⟨_, _, ⟨w.heap.size, 0, 0⟩, by simp [execOp, Instr.box, run_newVar]; rfl, by simp only [VR]; exact new_ptr id _ _ _, fin _ t (content_CR (he _ _ h3) h4)⟩
  case h_3 t m parts =>
    split at ha
    · rename_i el hu
      split at ha
      · rename_i sz z ps hs hz hps
        split at ha
        · rename_i zc hzc
          simp only [Bool.cond_eq_ite, Bool.and_eq_true, blt_iff, ble_iff, beq_iff] at ha
          split at ha
          · rename_i hcc
            obtain ⟨c1, c2, c3⟩ := hcc
            obtain ⟨q, h1, h2⟩ := mapSome ha
            simp only [Prod.mk.injEq] at h2
            obtain ⟨_, rfl, rfl⟩ := h2
            obtain ⟨x, hx, hv⟩ := zeroV_spec hz
            obtain ⟨g1, g2⟩ := partsOf_ok he _ _ hps
            have hzr := content_CR (hv μ A) hzc
            obtain ⟨f1, f2⟩ := cat_flat zc m
            rw [c3] at f1 f2
            have hzero : CR μ A (List.replicate m zc).flatten ((Array.range (m * sz)).map (x.cells[· % x.cells.size]!)) := by
              refine ⟨by simp [f1], fun j s hj => ?_⟩
              have hjlt := cat_lt _ j s hj
              rw [f1] at hjlt
              rw [f2 j hjlt] at hj
              obtain ⟨y, y1, y2⟩ := hzr.2 _ s hj
              refine ⟨y, ?_, y2⟩
              have hsz : x.cells.size = sz := by rw [hzr.1, c3]
              have hlt := lt_of_some y1
              have e1 : x.cells[j % sz]! = y := by rw [getElem!_pos x.cells (j % sz) hlt]; rw [Array.getElem?_eq_getElem hlt] at y1; simpa using y1
              simp [hjlt, hsz, e1]
            obtain ⟨cells', k1, k2⟩ := fillC_ok (place' := fun i => some (i * sz, sz)) (fun _ _ _ h => h) ps (parts.toList.map fun p => (p.1, ρ p.2)) _ q _ h1 (by simpa using g1) (by simpa using g2) hzero
            refine ⟨.slice (some ⟨w.heap.size, 0, none⟩) m m, _, ⟨w.heap.size, 0, 0⟩, ?_, by simp only [VR]; exact new_sl id _ _ _ (Nat.le_refl _) _ _, fin cells' el k2⟩
            have hne : ¬ (m = 0 ∨ sz = 0) := by
              rintro (e | e)
              · subst e; simp at c1
              · subst e; simp at c1
            have k1' : Instr.fill (fun i => some (i * sz, sz)) ((Array.range (m * sz)).map (x.cells[· % x.cells.size]!)) (List.map (fun p => (p.fst, ρ p.snd)) parts.toList) = some cells' := k1
            have hbig : ¬ 2 ^ 24 < m * sz := by have : (2 : Nat) ^ 24 = 16777216 := rfl; omega
            simp only [execOp, Instr.buildSlice, Sem.run_bind, run_und hu, Result.andThen_ok, run_size hs]
            rw [if_neg hbig]
            simp only [Sem.run_bind, Sem.run_ite, Nat.mul_eq_zero]
            rw [if_neg hne, hx w, Result.andThen_ok, Sem.run_pure, Result.andThen_ok]
            have e2 : (Array.map (fun (x : Nat × Operand) => (x.fst, ρ x.snd)) parts).toList = List.map (fun p => (p.fst, ρ p.snd)) parts.toList := by cases parts; simp
            rw [e2, k1']
            simp [newRow]
          · cases ha
        · cases ha
      · cases ha
    · cases ha
  case h_4 t l cp =>
    have mk : ∀ (el : TypeId) (info : TypeInfo) (len cap : Int) (x : Value), P.underlying t = some (.slice el) → ρ l = .int .i64 len → ρ cp = .int .i64 cap → P.info? el = some info → (∀ w, (zeroValue el).run P w = .ok x w) → x.cells = #[x] → info.size = 1 → 0 < info.bytes →
        0 ≤ len → len ≤ cap → (info.bytes : Int) * cap ≤ 140737488355328 → ∀ (bb : List Seg), CR μ A bb ((Array.range cap.toNat).map (x.cells[· % x.cells.size]!)) →
        (∀ (cells : Array Value) (el : TypeId), CR μ A bb cells → Step μ A h w (upd μ id ⟨w.heap.size, 0, 0⟩) (fun i => A i ∨ i = id) { m := h.m.set id ⟨bb, false, false⟩, nx := nx, lo := h.lo } (w.alloc (.cells cells el)) ∧ Ext (fun _ _ => False) w (w.alloc (.cells cells el))) →
        ∃ z w' p, (execOp ρ ⟨dst, .makeSlice t l cp, type, pos, after, guard⟩).run P w = .ok (.value z) w' ∧ VR (upd μ id p) (fun i => A i ∨ i = id) (.sc (.sl (some ⟨id, 0, none⟩) len.toNat (.k cap.toNat))) z ∧
          Step μ A h w (upd μ id p) (fun i => A i ∨ i = id) { m := h.m.set id ⟨bb, false, false⟩, nx := nx, lo := h.lo } w' ∧ Ext (fun _ _ => False) w w' := by
      intro el info len cap x hu hL hCp hi hx hx1 hsz hby a1 a2 a3 bb hcr fin
      have hcap : cap ≤ 140737488355328 := by
        have : (1 : Int) * cap ≤ info.bytes * cap := Int.mul_le_mul_of_nonneg_right (by omega) (by omega)
        omega
      refine ⟨.slice (some ⟨w.heap.size, 0, none⟩) len.toNat cap.toNat, _, ⟨w.heap.size, 0, 0⟩, ?_, by simp only [VR]; exact new_sl id _ _ _ (by omega) _ _, fin _ el hcr⟩
      have w1 : IntKind.i64.wrap len = len := wrap_i64_in (by omega) (by omega)
      have w2 : IntKind.i64.wrap cap = cap := wrap_i64_in (by omega) (by omega)
      have hs : (sizeOf el).run P w = .ok 1 w := by simp [sizeOf, typeInfo, hi, hsz]
      have t1 : (decide (cap < 0) || decide ((info.bytes : Int) * cap > 2 ^ 48)) = false := by
        have : (2 : Int) ^ 48 = 281474976710656 := rfl
        simp only [Bool.or_eq_false_iff, decide_eq_false_iff_not]
        omega
      simp only [execOp, Instr.makeSlice, Sem.run_bind, run_und hu, Result.andThen_ok, hL, hCp, asInt, asIntOf, Sem.run_pure, typeInfo, run_program, hi, w1, w2, t1, run_askRoom, hs, Nat.mul_one, Sem.run_ite]
      rw [if_neg (by simp; omega)]
      by_cases h0 : cap.toNat = 0
      · have z0 : ∀ (f : Nat → Value), (Array.range 0).map f = #[] := fun f => by rw [← Array.size_eq_zero_iff]; simp
        rw [h0]
        simp [newRow, z0]

      · rw [if_neg h0]
        simp [hx, newRow]
    split at ha
    · rename_i el len cap hu hl hcp
      have hL := he _ _ hl
      have hCp := he _ _ hcp
      simp only [VR, SR] at hL hCp
      split at ha
      · rename_i sz by_ k z hsz0 hby0 hz
        obtain ⟨info, hi, rfl⟩ := sizeT_info hsz0
        have hby1 : info.bytes = by_ := by simpa [bytesT, hi] using hby0
        subst hby1
        simp only [Bool.cond_eq_ite, Bool.and_eq_true, decide_eq_true_eq, beq_iff, blt_iff] at ha
        split at ha
        · rename_i hcc
          obtain ⟨c1, c2, c3⟩ := hcc
          simp only [Option.some.injEq, Prod.mk.injEq, Bool.and_eq_true, decide_eq_true_eq] at ha
          obtain ⟨⟨a1, a2, a3⟩, rfl, rfl⟩ := ha
          obtain ⟨x, hx, hv⟩ := zeroV_spec hz
          have hvx := hv μ A
          simp only [VR] at hvx
          subst c1
          exact mk el info len cap x hu hL hCp hi hx hvx.cells.1 c2 c3 a1 a2 a3 _ (madeCells_CR hvx hvx.cells.1 _ (by simp [csize, Seg.size]) (fun j hj => by rw [cat_cons, if_pos (by simpa [Seg.size] using hj)]; rfl)) fin
        · cases ha
      · rename_i sz by_ z hno hsz0 hby0 hz
        obtain ⟨info, hi, rfl⟩ := sizeT_info hsz0
        have hby1 : info.bytes = by_ := by simpa [bytesT, hi] using hby0
        subst hby1
        simp only [Bool.cond_eq_ite, Bool.and_eq_true, beq_iff, blt_iff] at ha
        split at ha
        · rename_i hcc
          obtain ⟨c2, c3⟩ := hcc
          simp only [Option.some.injEq, Prod.mk.injEq, Bool.and_eq_true, decide_eq_true_eq] at ha
          obtain ⟨⟨a1, a2, a3⟩, rfl, rfl⟩ := ha
          obtain ⟨x, hx, hv⟩ := zeroV_spec hz
          have hvx := hv μ A
          simp only [VR] at hvx
          obtain ⟨r1, r2⟩ := cat_rep z cap.toNat
          exact mk el info len cap x hu hL hCp hi hx hvx.cells.1 c2 c3 a1 a2 a3 _ (madeCells_CR hvx hvx.cells.1 _ r1 r2) fin
        · cases ha
      · cases ha
    · cases ha
  case h_5 => cases ha

/-! Rows of cells: 'append', 'copy'. -/
theorem toRun_spec {x : List Seg} {k : IntKind} {n : Nat} {f : Nat → Int} (h : toRun x = some (k, n, f)) : csize x = n ∧ ∀ j, j < n → cat x j = some (.i k (f j)) := by
  unfold toRun at h
  split at h
  · simp only [Option.some.injEq, Prod.mk.injEq] at h
    obtain ⟨rfl, rfl, rfl⟩ := h
    exact ⟨by simp [csize, Seg.size], fun j hj => by rw [cat_cons, if_pos (by simpa [Seg.size] using hj)]; rfl⟩
  · simp only [Option.some.injEq, Prod.mk.injEq] at h
    obtain ⟨rfl, rfl, rfl⟩ := h
    exact ⟨by simp [csize, Seg.size], fun j hj => by rw [cat_cons, if_pos (by simpa [Seg.size] using hj)]; rfl⟩
  · cases h

theorem joinC_spec (a b : List Seg) : csize (joinC a b) = csize a + csize b ∧ ∀ j, cat (joinC a b) j = if j < csize a then cat a j else cat b (j - csize a) := by
  have app : csize (a ++ b) = csize a + csize b ∧ ∀ j, cat (a ++ b) j = if j < csize a then cat a j else cat b (j - csize a) := ⟨csize_append a b, cat_append a b⟩
  unfold joinC
  split
  · split
    · rename_i k n f hr
      obtain ⟨h1, h2⟩ := toRun_spec hr
      refine ⟨by simp [csize, Seg.size, h1], fun j => ?_⟩
      simp only [csize, Nat.not_lt_zero, if_false, Nat.sub_zero]
      by_cases hj : j < n
      · rw [h2 j hj, cat_cons, if_pos (by simpa [Seg.size] using hj)]; rfl
      · have e1 : cat [Seg.run k n f] j = none := cat_none _ _ (by simp [csize, Seg.size]; omega)
        have e2 : cat b j = none := cat_none _ _ (by omega)
        rw [e1, e2]
    · exact app
  · split
    · rename_i k n f k' m g hr hr'
      simp only [Bool.cond_eq_ite, ikEq_iff]
      split
      · rename_i hk
        subst hk
        obtain ⟨h1, h2⟩ := toRun_spec hr
        obtain ⟨h3, h4⟩ := toRun_spec hr'
        refine ⟨by simp [csize, Seg.size, h1, h3], fun j => ?_⟩
        rw [h1]
        by_cases hj : j < n + m
        · rw [cat_cons, if_pos (by simpa [Seg.size] using hj)]
          simp only [Seg.at]
          by_cases hn : j < n
          · rw [if_pos hn, h2 j hn]; simp [hn, Nat.blt_eq]
          · rw [if_neg hn, h4 _ (by omega)]; simp [hn, Nat.blt_eq]
        · have e1 : cat [Seg.run k (n + m) (fun j => cond (Nat.blt j n) (f j) (g (j - n)))] j = none := cat_none _ _ (by simp [csize, Seg.size]; omega)
          have e2 : cat b (j - n) = none := cat_none _ _ (by omega)
          simp only [Bool.cond_eq_ite] at e1
          rw [if_neg (by omega), e1, e2]
      · exact app
    · exact app

theorem rowsC_spec {c : List Seg} {a : AA} {n sz : Nat} {x : List Seg} (h : rowsC c a n sz = some (true, x)) : csize x = n * sz ∧ ∀ j, j < n * sz → cat x j = cat c (a.real + j) := by
  have sub : ∀ {x}, subC c a.real (n * sz) = some (true, x) → csize x = n * sz ∧ ∀ j, j < n * sz → cat x j = cat c (a.real + j) := fun h => (subC_spec h).2
  obtain ⟨id, o, ix⟩ := a
  unfold rowsC at h
  simp only at h
  split at h
  · rename_i r st f k m g hs
    simp only [Bool.cond_eq_ite, Bool.and_eq_true, beq_iff] at h
    split at h
    · rename_i hc
      obtain ⟨rfl, rfl, rfl⟩ := hc
      simp only [Option.some.injEq, Prod.mk.injEq, ble_iff] at h
      obtain ⟨h1, rfl⟩ := h
      obtain ⟨h4, h5⟩ := segAt_spec c o _ hs
      refine ⟨by simp [csize, Seg.size], fun j hj => ?_⟩
      rw [cat_cons, if_pos (by simp only [Seg.size]; omega)]
      have := h5 (r + j) (by simp only [Seg.size]; omega)
      simp only [AA.real, Nat.mul_one, Nat.add_zero]
      rw [Nat.add_assoc, this]
      rfl
    · exact sub h
  · rename_i k m g hs
    simp only [Bool.cond_eq_ite, beq_iff] at h
    split at h
    · rename_i hc
      subst hc
      simp only [Option.some.injEq, Prod.mk.injEq, ble_iff] at h
      obtain ⟨h1, rfl⟩ := h
      obtain ⟨h4, h5⟩ := segAt_spec c o _ hs
      refine ⟨by simp [csize, Seg.size], fun j hj => ?_⟩
      rw [cat_cons, if_pos (by simp only [Seg.size]; omega)]
      have := h5 j (by simp only [Seg.size]; omega)
      simp only [AA.real]
      rw [this]
      rfl
    · exact sub h
  · exact sub h

theorem putC_spec {c : List Seg} {a : AA} {x : List Seg} {n sz : Nat} {c' : List Seg} (h : putC c a x n sz = some (true, c')) :
    a.real + csize x ≤ csize c ∧ csize c' = csize c ∧ ∀ j, cat c' j = if a.real ≤ j ∧ j < a.real + csize x then cat x (j - a.real) else cat c j := by
  have core : ∀ (o r R : Nat) (k : IntKind) (m : Nat) (g : Nat → Int) (g' : Nat → Int) (F : Nat → Int), segAt c o = some (.run k m g) → toRun x = some (k, n, g') → r + n ≤ m → R = o + r →
      (∀ j, F j = if r ≤ j ∧ j < r + n then g' (j - r) else g j) → R + csize x ≤ csize c ∧ csize (segSet c o (.run k m F)) = csize c ∧ ∀ j, cat (segSet c o (.run k m F)) j = if R ≤ j ∧ j < R + csize x then cat x (j - R) else cat c j := by
    intro o r R k m g g' F hs hx hle hreal hF
    subst hreal
    obtain ⟨t1, t2⟩ := toRun_spec hx
    obtain ⟨h4, h5⟩ := segAt_spec c o _ hs
    simp only [Seg.size] at h4
    obtain ⟨h9, h10⟩ := segSet_spec c o _ (.run k m F) hs rfl
    rw [t1]
    refine ⟨by omega, h9, fun j => ?_⟩
    rw [h10]
    by_cases hq : o ≤ j ∧ j < o + (Seg.run k m g).size
    · rw [if_pos hq]
      simp only [Seg.size] at hq
      simp only [Seg.at]
      rw [hF]
      by_cases hr : r ≤ j - o ∧ j - o < r + n
      · rw [if_pos hr, if_pos (by omega), t2 _ (by omega), show j - o - r = j - (o + r) by omega]
      · rw [if_neg hr, if_neg (by omega)]
        have := h5 (j - o) (by simp only [Seg.size]; omega)
        rw [show o + (j - o) = j by omega] at this
        rw [this]; rfl
    · rw [if_neg hq]
      simp only [Seg.size] at hq
      rw [if_neg (by omega)]
  have hreal : ∀ r st f, a.ix = some (r, st, f) → a.real = a.off + (r * st + f) := fun r st f e => by simp [AA.real, e]
  have hreal' : a.ix = none → a.real = a.off := fun e => by simp [AA.real, e]
  unfold putC at h
  generalize a.real = R at *
  have gen : ∀ {c'}, updC c R x = some (true, c') → R + csize x ≤ csize c ∧ csize c' = csize c ∧ ∀ j, cat c' j = if R ≤ j ∧ j < R + csize x then cat x (j - R) else cat c j := fun h => updC_spec h
  split at h
  · rename_i r st f k m g k' n' g' hix hs hx
    rw [Bool.cond_eq_ite] at h
    split at h
    · rename_i hc
      simp only [Bool.and_eq_true, beq_iff, ikEq_iff] at hc
      obtain ⟨rfl, rfl, rfl, rfl, rfl⟩ := hc
      simp only [Option.some.injEq, Prod.mk.injEq, ble_iff] at h
      obtain ⟨h1, rfl⟩ := h
      refine core a.off r R k m g g' _ hs hx h1 (by rw [hreal _ _ _ hix]; omega) (fun j => ?_)
      by_cases hj : r ≤ j ∧ j < r + n
      · rw [if_pos hj, show (Nat.ble r j && Nat.blt j (r + n)) = true from by simp only [Bool.and_eq_true, ble_iff, blt_iff]; exact hj]; rfl
      · rw [if_neg hj]
        have : (Nat.ble r j && Nat.blt j (r + n)) = false := by
          rw [Bool.eq_false_iff]
          simp only [ne_eq, Bool.and_eq_true, ble_iff, blt_iff]
          exact hj
        rw [this]; rfl
    · exact gen h
  · rename_i k m g k' n' g' hix hs hx
    rw [Bool.cond_eq_ite] at h
    split at h
    · rename_i hc
      simp only [Bool.and_eq_true, beq_iff, ikEq_iff] at hc
      obtain ⟨rfl, rfl, rfl⟩ := hc
      simp only [Option.some.injEq, Prod.mk.injEq, ble_iff] at h
      obtain ⟨h1, rfl⟩ := h
      refine core a.off 0 R k m g g' _ hs hx (by omega) (by rw [hreal' hix]; omega) (fun j => ?_)
      by_cases hj : j < n
      · rw [if_pos (by omega), show Nat.blt j n = true from blt_iff.2 hj]; rfl
      · rw [if_neg (by omega), show Nat.blt j n = false from by rw [Bool.eq_false_iff]; intro e; exact hj (blt_iff.1 e)]; rfl
    · exact gen h
  · exact gen h

/-- A slice's cells, as they are read. -/
theorem contC_ok (hr : HR μ A h w) {x : V} {sz : Nat} {xc : List Seg} (hc : contC h x sz = some (true, xc)) {n : Nat} (hn : lenS x = some n) (hsz : csize xc = n * sz) {X : Value} (hx : VR μ A x X) :
    ∃ xs : Array Value, (Builtin.firstCells sz n X).run P w = .ok xs w ∧ CR μ A xc xs ∧ (Builtin.lenOf X).run P w = .ok n w := by
  unfold contC at hc
  try simp only [undX_eq, szX_eq, agX_eq, zvX_eq, knX_eq, gdX_eq, byX_eq, zlX_eq, ikX_eq] at hc
  split at hc
  · simp only [lenS, Option.some.injEq] at hn
    subst hn
    simp only [Option.some.injEq, Prod.mk.injEq, true_and] at hc
    subst hc
    simp only [VR, SR] at hx
    obtain ⟨_, _, rfl⟩ := hx
    exact ⟨#[], by simp [Builtin.firstCells], ⟨by simp [csize], fun j s hj => by simp [cat] at hj⟩, by simp [Builtin.lenOf]⟩
  · rename_i a m cp
    simp only [lenS, Option.some.injEq] at hn
    subst hn
    simp only [VR] at hx
    obtain ⟨hid, ad, cc, hl, rfl, hcc, _⟩ := SR_sl hx
    split at hc
    · rename_i b hb
      obtain ⟨r1, r2⟩ := rowsC_spec hc
      obtain ⟨cells, k1, k2, k3⟩ := choose_cells (μ := μ) (A := A) r1 (f := fun j => w.cell? ⟨(μ a.id).b, (μ a.id).o + a.real + j, none⟩) (fun j s hs => by
        have hj := cat_lt xc j s hs
        rw [r2 j (by omega)] at hs
        obtain ⟨y, y1, y2⟩ := hr.cells a.id b hb _ s hs
        exact ⟨y, by rw [← Nat.add_assoc] at y1; exact y1, y2⟩)
      refine ⟨cells, ?_, k3, by simp [Builtin.lenOf]⟩
      by_cases h0 : m * sz = 0
      · have : cells = #[] := by rw [← Array.size_eq_zero_iff]; omega
        rw [this]
        simp only [Builtin.firstCells, h0]
        rfl
      · have hm : m ≠ 0 := fun e => h0 (by rw [e]; simp)
        have : ad = a.conc μ := hcc.resolve_left (by omega)
        subst this
        have h1 := run_loadCells_list (P := P) w (a.conc μ) cells.toList (fun j v hv => by
          rw [AA.conc, add_at]
          have hj : j < m * sz := by
            obtain ⟨h, _⟩ := List.getElem?_eq_some_iff.1 hv
            simpa [k1] using h
          rw [k2 j hj, Array.getD_eq_getD_getElem?, ← Array.getElem?_toList, hv]
          rfl)
        simp only [Array.length_toList, k1, Array.toArray_toList] at h1
        simp only [Builtin.firstCells]
        exact h1
    · cases hc
  · cases hc

theorem CR_app {a b : List Seg} {xs ys : Array Value} (ha : CR μ A a xs) (hb : CR μ A b ys) {c : List Seg} (hs : csize c = csize a + csize b) (hc : ∀ j, cat c j = if j < csize a then cat a j else cat b (j - csize a)) : CR μ A c (xs ++ ys) := by
  refine ⟨by rw [Array.size_append, ha.1, hb.1, hs], fun j s hj => ?_⟩
  rw [hc] at hj
  split at hj
  · rename_i h1
    obtain ⟨y, y1, y2⟩ := ha.2 j s hj
    exact ⟨y, by rw [Array.getElem?_append_left (lt_of_some y1)]; exact y1, y2⟩
  · rename_i h1
    obtain ⟨y, y1, y2⟩ := hb.2 _ s hj
    exact ⟨y, by rw [Array.getElem?_append_right (by rw [ha.1]; omega), ha.1]; exact y1, y2⟩

/-- A row of the call's own is appended to where it lies. -/
theorem step_regrow (hr : HR μ A h w) {id : Nat} {b : Blk} (hb : h.m.get id = some b) (hg : b.grow = true) (hlo : h.lo ≤ id) {id' : Nat} (hid : ¬ A id') (hlo' : h.lo ≤ id') {r L : Nat} {c' : List Seg} {vs : List Value} {w' : World} (hrf : r ≤ (μ id).fin) (hw : Wrote w w' (μ id).b ((μ id).o + r + L) vs)
    (hc : ∀ j s, cat c' j = some s → ∃ x, w'.cell? ⟨(μ id).b, (μ id).o + r + j, none⟩ = some x ∧ SR μ A s x) (nx : Nat) :
    Step μ A h w (upd μ id' ⟨(μ id).b, (μ id).o + r, (μ id).fin - r⟩) (fun i => A i ∨ i = id') { m := (h.m.delF id).set id' ⟨c', true, false⟩, nx := nx, lo := h.lo } w' := by
  obtain ⟨hro, q0, el0, hq0, hf0⟩ := hr.grow id b hb hg
  have hne : ∀ i, A i → i ≠ id' := fun i hi e => hid (e ▸ hi)
  have hmu : ∀ i, A i → upd μ id' ⟨(μ id).b, (μ id).o + r, (μ id).fin - r⟩ i = μ i := fun i hi => by simp [upd, hne i hi]
  have hself : upd μ id' ⟨(μ id).b, (μ id).o + r, (μ id).fin - r⟩ id' = ⟨(μ id).b, (μ id).o + r, (μ id).fin - r⟩ := by simp [upd]
  have hget : ∀ i, ((h.m.delF id).set id' ⟨c', true, false⟩).get i = if i = id' then some ⟨c', true, false⟩ else if i = id then none else h.m.get i := fun i => by rw [T.get_set, T.get_delF]
  have hext : Ext (foot μ h) w w' := by
    by_cases hv : vs = []
    · subst hv
      refine ⟨hw.os, hw.tape, hw.output, Nat.le_of_eq hw.size.symm, fun k hk hn => ?_, fun k c el fz hk => ?_, fun k x hk hx => absurd (lt_of_some hx) (by rw [hw.size]; omega)⟩
      · by_cases e : k = (μ id).b
        · exact absurd ⟨id, b, hb, hro, e.symm, Nat.le_refl _, .inl hg⟩ (hn (μ id).o)
        · exact hw.other k e
      · by_cases e : k = (μ id).b
        · subst e
          obtain ⟨c2, h3, h4, h5⟩ := hw.blk c el fz hk
          exact ⟨c2, h3, h4, fun o _ => by rw [h5, if_neg (by simp; omega)]⟩
        · exact ⟨c, by rw [hw.other k e]; exact hk, rfl, fun _ _ => rfl⟩
    · exact hw.ext (fun j hj => ⟨id, b, hb, hro, rfl, by omega, .inl hg⟩) hv
  have mono : ∀ s x, SR μ A s x → SR (upd μ id' ⟨(μ id).b, (μ id).o + r, (μ id).fin - r⟩) (fun i => A i ∨ i = id') s x := fun s x hs => SR_upd hid _ hs
  have hblk' : ∃ c el, w'.heap[(μ id).b]? = some (.cells c el (0, 0)) ∧ (μ id).o + r + ((μ id).fin - r) ≤ c.size := by
    obtain ⟨c2, h3, h4, _⟩ := hext.part _ _ _ _ hq0
    exact ⟨c2, el0, h3, by rw [h4]; omega⟩
  have clear : ∀ i k, h.m.get i = some k → i ≠ id → k.live → (μ i).b ≠ (μ id).b ∨ ((μ i).o + csize k.c ≤ (μ id).o ∧ k.grow = false) := fun i k hk hi hl => by
    rcases hr.apart i k id b hk hb hi (.inr hro) hl (.inr hg) with q | q | q
    · exact .inl q
    · exact .inr q
    · rw [hg] at q; cases q.2
  refine ⟨⟨?_, ?_, ?_, ?_, ?_⟩, fun i hi => .inl hi, hmu, hext, ?_, rfl, ?_⟩
  · intro i k hk
    simp only [hget] at hk
    split at hk
    · rename_i e; exact .inr e
    · split at hk
      · cases hk
      · exact .inl (hr.dom i k hk)
  · intro i k hk j s hs
    simp only [hget] at hk
    split at hk
    · rename_i e
      subst e
      cases hk
      obtain ⟨x, h1, h2⟩ := hc j s hs
      exact ⟨x, by rw [hself]; exact h1, mono _ _ h2⟩
    · split at hk
      · cases hk
      · rename_i hi
        obtain ⟨x, h1, h2⟩ := hr.cells i k hk j s hs
        refine ⟨x, ?_, mono _ _ h2⟩
        rw [hmu i (hr.dom i k hk), hw.cell h1, if_neg]
        rintro ⟨e1, e2, e3⟩
        have hj := cat_lt _ _ _ hs
        rcases clear i k hk hi (.inl (by omega)) with q | q
        · exact q e1
        · omega
  · intro i k hk hro' j hj
    simp only [hget] at hk
    split at hk
    · rename_i e
      subst e
      rw [hself]
      obtain ⟨c2, el2, h3, _⟩ := hblk'
      rw [frozen_of h3]
      simp
    · split at hk
      · cases hk
      · rw [hmu i (hr.dom i k hk)]
        obtain ⟨s, hs⟩ := cat_some k.c j hj
        obtain ⟨x, h1, _⟩ := hr.cells i k hk j s hs
        rw [hw.frozen h1]
        exact hr.free i k hk hro' j hj
  · intro i k hk hgr
    simp only [hget] at hk
    split at hk
    · rename_i e
      subst e
      cases hk
      rw [hself]
      exact ⟨rfl, hblk'⟩
    · split at hk
      · cases hk
      · obtain ⟨h1, q, e, h2, hf⟩ := hr.grow i k hk hgr
        obtain ⟨c2, h3, h4, _⟩ := hext.part _ _ _ _ h2
        rw [hmu i (hr.dom i k hk)]
        exact ⟨h1, c2, e, h3, by rw [h4]; exact hf⟩
  · intro i k j k' hk hk' hij hro' hl1 hl2
    simp only [hget] at hk hk'
    split at hk
    · rename_i e
      split at hk'
      · rename_i e'; exact absurd (e.trans e'.symm) hij
      · split at hk'
        · cases hk'
        · rename_i hj
          subst e
          cases hk
          rw [hself, hmu j (hr.dom j k' hk')]
          rcases clear j k' hk' hj hl2 with q | q
          · exact .inl (fun e => q e.symm)
          · exact .inr (.inr ⟨by show _ ≤ (μ id).o + r; omega, q.2⟩)
    · split at hk
      · cases hk
      · rename_i hi
        split at hk'
        · rename_i e'
          subst e'
          cases hk'
          rw [hself, hmu i (hr.dom i k hk)]
          rcases clear i k hk hi hl1 with q | q
          · exact .inl q
          · exact .inr (.inl ⟨by show _ ≤ (μ id).o + r; omega, q.2⟩)
        · split at hk'
          · cases hk'
          · rw [hmu i (hr.dom i k hk), hmu j (hr.dom j k' hk')]
            exact hr.apart i k j k' hk hk' hij hro' hl1 hl2
  · intro p o hf
    obtain ⟨i, k, hk, hro', h1, h2, h3⟩ := hf
    simp only [hget] at hk
    split at hk
    · rename_i e
      subst e
      rw [hself] at h1 h2
      exact .inl ⟨id, b, hb, hro, h1, by simp only at h2; omega, .inl hg⟩
    · split at hk
      · cases hk
      · rw [hmu i (hr.dom i k hk)] at h1 h2 h3
        exact .inl ⟨i, k, hk, hro', h1, h2, h3⟩
  · intro i hi
    simp only [hget]
    rw [if_neg (by omega), if_neg (by omega)]

end
end Go.Proofs.YteionboacdkfjaaDoor.X
