/-
  X, part H: slices, literals, built-in functions; all operations that look at no memory, together.
-/
import Derived.Test.YteionboacdkfjaaDoorYG
import Derived.Lib.Strings
import Derived.Laws.Small
namespace Go.Proofs.YteionboacdkfjaaDoor.X
set_option linter.unusedSectionVars false

section
variable {P : Program} [Tb P] {μ : Mu} {A : Nat → Prop}

theorem bound_up {x : Option V} {X : Option Value} (hx : OR μ A x X) {d top q : Nat} {b : Bool} (h : boundC x d top = some (b, q)) (hb : b = true) (top' : Nat) (ht : top ≤ top') (code : BoundsCode) :
    ∀ v, X = some v → ∀ w, (Instr.sliceBound v top' code).run P w = .ok q w := by
  subst hb
  unfold boundC at h
  split at h
  · cases X with
    | none => exact fun v hv => (by cases hv)
    | some X => simp [OR] at hx
  · rename_i k i
    obtain ⟨h1, rfl⟩ := some_pair h
    cases X with
    | none => simp [OR] at hx
    | some X =>
      simp only [OR, VR, SR] at hx
      subst hx
      simp only [Bool.and_eq_true, decide_eq_true_eq] at h1
      intro v hv w
      cases hv
      have h2 : i ≤ (top' : Int) := by omega
      simp [Instr.sliceBound, asIntOf, h1, h2]
  · cases h

theorem sub_addr {a b : AA} {ad : Addr} {cap l m sz : Nat} (hb : a.addI l sz = some b) (hc : cap = 0 ∨ ad = a.conc μ) (hm : m ≤ cap) (hl : l ≤ m) :
    ∃ ad', (if m = l then some ad else some (ad.add (l * sz))) = some ad' ∧ (m - l = 0 ∨ ad' = b.conc μ) ∧ b.id = a.id := by
  obtain ⟨g1, _, g3⟩ := addI_ok (μ := μ) hb
  by_cases e : m = l
  · exact ⟨ad, by rw [if_pos e], .inl (by omega), g1⟩
  · have hc' : ad = a.conc μ := hc.resolve_left (by omega)
    exact ⟨ad.add (l * sz), by rw [if_neg e], .inr (by rw [hc', g3]), g1⟩

theorem sliceC_ok {t : TypeId} {x v : V} {lo hi mx : Option V} {c : Bool} (h : sliceC P t x lo hi mx = some (c, v)) (hc : c = true) {X : Value} (hx : VR μ A x X) {Lo Hi Mx : Option Value}
    (hlo : OR μ A lo Lo) (hhi : OR μ A hi Hi) (hmx : OR μ A mx Mx) : ∃ z, VR μ A v z ∧ ∀ w, (Instr.sliceAt t X Lo Hi Mx).run P w = .ok z w := by
  subst hc
  unfold sliceC at h
  try simp only [undX_eq, szX_eq, agX_eq, zvX_eq, knX_eq, gdX_eq, byX_eq, zlX_eq, ikX_eq] at h
  simp only [Bool.cond_eq_ite, Bool.and_eq_true] at h
  split at h
  · cases h
  rename_i hmh
  have hm : Mx ≠ none → Hi ≠ none := fun h1 h2 => by
    apply hmh
    cases mx <;> cases Mx <;> simp_all [OR]
  split at h
  · rename_i s hu
    simp only [VR, SR] at hx
    subst hx
    split at h
    · rename_i b q h1
      split at h
      · rename_i b' l h2
        obtain ⟨hb, rfl⟩ := some_pair h
        cases Mx with
        | some z => simp [OR] at hmx
        | none =>
          obtain ⟨hr, l1, l2, _⟩ := bounds_ok (P := P) hlo hhi (mx := none) (Mx := none) (by simp [OR]) false (b0 := true) (m := s.length) (cap := s.length) rfl h1 h2 (by simpa using hb) (by simp) (Nat.le_refl _)
          have hsz : (⟨s.toArray⟩ : ByteArray).size = s.length := by simp [ByteArray.size]
          refine ⟨.string ((⟨s.toArray⟩ : ByteArray).extract l q), ?_, fun w => ?_⟩
          · simp only [VR, SR]
            congr 1
            apply ByteArray.ext
            rw [ByteArray.data_extract]
            apply Array.ext'
            simp [Array.toList_extract, List.extract_eq_take_drop, List.drop_take]
          · rw [← hsz] at hr
            simp [Instr.sliceAt, Instr.slice, run_und hu, hr]
      · cases h
    · cases h
  · rename_i e a len cap hu
    simp only [VR] at hx
    obtain ⟨hid, ad, cc, hl, rfl, hcc, hk, _⟩ := SR_sl hx
    obtain rfl := hk cap rfl
    split at h
    · rename_i sz b0 m hs h0
      split at h
      · rename_i b q h1
        split at h
        · rename_i b' l h2
          obtain ⟨a', ha, he⟩ := mapSome h
          obtain ⟨hb, rfl⟩ := Prod.mk.injEq .. ▸ he
          obtain ⟨hr, l1, l2, l3⟩ := bounds_ok (P := P) hlo hhi hmx true h0 h1 h2 hb hm hl
          obtain ⟨ad', e1, e2, e3⟩ := sub_addr ha hcc l3 (Nat.le_trans l1 l2)
          refine ⟨.slice (some ad') (q - l) (m - l), ?_, fun w => ?_⟩
          · simp only [VR, SR, e3]
            exact ⟨hid, by omega, ad', rfl, e2⟩
          · have e1' : (if m = l then some ad else Option.map (fun x => x.add (l * sz)) (some ad)) = some ad' := e1
            simp only [Instr.sliceAt, Instr.slice, Sem.run_bind, run_und hu, Result.andThen_ok, hr, run_size hs, e1', Sem.run_pure]
        · cases h
      · cases h
    · cases h
  · rename_i e a len gs hu
    simp only [VR] at hx
    obtain ⟨hid, ad, cc, hl, rfl, hcc, _, hfin⟩ := SR_sl hx
    split at h
    · rename_i sz hs
      split at h
      · rename_i b q h1
        split at h
        · rename_i b' l h2
          obtain ⟨a', ha, he⟩ := mapSome h
          obtain ⟨hb, rfl⟩ := Prod.mk.injEq .. ▸ he
          simp only [Bool.and_eq_true, beq_iff] at hb
          obtain ⟨hgs, hb⟩ := hb
          subst hgs
          have l1 : l ≤ q := by
            cases hL : Lo with
            | none => have := (bound_ok (P := P) hlo h2 hb.2 .index).2.1 hL; omega
            | some x => exact (bound_ok (P := P) hlo h2 hb.2 .index).2.2 (by rw [hL]; simp)
          have l2 : q ≤ len := by
            cases hL : Hi with
            | none => have := (bound_ok (P := P) hhi h1 hb.1 .index).2.1 hL; omega
            | some x => exact (bound_ok (P := P) hhi h1 hb.1 .index).2.2 (by rw [hL]; simp)
          have hr : ∀ w, (Instr.sliceBounds true len cc Lo Hi none).run P w = .ok (l, q, cc) w := fun w => by
            unfold Instr.sliceBounds
            cases hH : Hi with
            | none =>
              obtain rfl := (bound_ok (P := P) hhi h1 hb.1 .index).2.1 hH
              cases hL : Lo with
              | none => obtain rfl := (bound_ok (P := P) hlo h2 hb.2 .index).2.1 hL; rfl
              | some x => simp [(bound_ok (P := P) hlo h2 hb.2 _).1 x hL w]
            | some y =>
              have g1 := bound_up (P := P) hhi h1 hb.1 cc hl .sliceAcap y hH w
              cases hL : Lo with
              | none => obtain rfl := (bound_ok (P := P) hlo h2 hb.2 .index).2.1 hL; simp [g1]
              | some x => simp [g1, (bound_ok (P := P) hlo h2 hb.2 _).1 x hL w]
          cases Mx with
          | some z => simp [OR] at hmx
          | none =>
            obtain ⟨ad', e1, e2, e3⟩ := sub_addr ha hcc (Nat.le_refl cc) (by omega)
            refine ⟨.slice (some ad') (q - l) (cc - l), ?_, fun w => ?_⟩
            · simp only [VR, SR, e3]
              refine ⟨hid, ad', cc - l, by omega, rfl, ?_⟩
              rcases e2 with e2 | e2
              · exact .inl e2
              · by_cases hz : cc - l = 0
                · exact .inl hz
                · refine .inr ⟨e2, ?_⟩
                  have h5 := (hfin gs rfl).resolve_left (by omega)
                  rw [(addI_ok (μ := μ) ha).2.1, Nat.add_assoc, ← Nat.add_mul, show l + (cc - l) = cc by omega]
                  exact h5
            · have e1' : (if cc = l then some ad else Option.map (fun x => x.add (l * gs)) (some ad)) = some ad' := e1
              simp only [Instr.sliceAt, Instr.slice, Sem.run_bind, run_und hu, Result.andThen_ok, hr, run_size hs, e1', Sem.run_pure]
        · cases h
      · cases h
    · rename_i mv sz hs
      split at h
      · rename_i b0 m h0
        split at h
        · rename_i b q h1
          split at h
          · rename_i b' l h2
            obtain ⟨a', ha, he⟩ := mapSome h
            obtain ⟨hb, rfl⟩ := Prod.mk.injEq .. ▸ he
            have hb' := hb
            simp only [Bool.and_eq_true] at hb'
            obtain ⟨Mz, rfl⟩ : ∃ z, Mx = some z := by cases Mx with
              | none => simp [OR] at hmx
              | some z => exact ⟨z, rfl⟩
            obtain ⟨Hz, rfl⟩ : ∃ z, Hi = some z := by cases Hi with
              | none => exact absurd rfl (hm (by simp))
              | some z => exact ⟨z, rfl⟩
            have l3 : m ≤ len := (bound_ok (P := P) hmx h0 hb'.1 .index).2.2 (by simp)
            have l2 : q ≤ m := (bound_ok (P := P) hhi h1 hb'.2.1 .index).2.2 (by simp)
            have l1 : l ≤ q := by
              cases hL : Lo with
              | none => have := (bound_ok (P := P) hlo h2 hb'.2.2 .index).2.1 hL; omega
              | some x => exact (bound_ok (P := P) hlo h2 hb'.2.2 .index).2.2 (by rw [hL]; simp)
            have hr : ∀ w, (Instr.sliceBounds true len cc Lo (some Hz) (some Mz)).run P w = .ok (l, q, m) w := fun w => by
              unfold Instr.sliceBounds
              have g0 := bound_up (P := P) hmx h0 hb'.1 cc hl .slice3Acap Mz rfl w
              have g1 := (bound_ok (P := P) hhi h1 hb'.2.1 .slice3B).1 Hz rfl w
              cases hL : Lo with
              | none => obtain rfl := (bound_ok (P := P) hlo h2 hb'.2.2 .index).2.1 hL; simp [g0, g1]
              | some x => simp [g0, g1, (bound_ok (P := P) hlo h2 hb'.2.2 _).1 x hL w]
            obtain ⟨ad', e1, e2, e3⟩ := sub_addr ha hcc (Nat.le_trans l3 hl) (Nat.le_trans l1 l2)
            refine ⟨.slice (some ad') (q - l) (m - l), ?_, fun w => ?_⟩
            · simp only [VR, SR, e3]
              exact ⟨hid, by omega, ad', rfl, e2⟩
            · have e1' : (if m = l then some ad else Option.map (fun x => x.add (l * sz)) (some ad)) = some ad' := e1
              simp only [Instr.sliceAt, Instr.slice, Sem.run_bind, run_und hu, Result.andThen_ok, hr, run_size hs, e1', Sem.run_pure]
          · cases h
        · cases h
      · cases h
    · cases h
  · rename_i e hu
    simp only [VR, SR] at hx
    obtain ⟨_, _, rfl⟩ := hx
    split at h
    · rename_i sz b0 m hs h0
      split at h
      · rename_i b q h1
        split at h
        · rename_i b' l h2
          obtain ⟨hb, rfl⟩ := some_pair h
          have hb' := hb
          simp only [Bool.and_eq_true] at hb'
          have m0 : m = 0 := by
            cases hL : Mx with
            | none => exact (bound_ok (P := P) hmx h0 hb'.1 .index).2.1 hL
            | some x => have := (bound_ok (P := P) hmx h0 hb'.1 .index).2.2 (by rw [hL]; simp); omega
          have q0 : q = 0 := by
            cases hL : Hi with
            | none => exact (bound_ok (P := P) hhi h1 hb'.2.1 .index).2.1 hL
            | some x => have := (bound_ok (P := P) hhi h1 hb'.2.1 .index).2.2 (by rw [hL]; simp); omega
          subst m0 q0
          obtain ⟨hr, l1, l2, l3⟩ := bounds_ok (P := P) hlo hhi hmx true h0 h1 h2 hb hm (Nat.le_refl 0)
          have l0 : l = 0 := by omega
          subst l0
          refine ⟨.slice none 0 0, by simp [VR, SR], fun w => ?_⟩
          simp only [Instr.sliceAt, Instr.slice, Sem.run_bind, run_und hu, Result.andThen_ok, hr, run_size hs, if_true, Sem.run_pure]
        · cases h
      · cases h
    · cases h
  · rename_i m0 e a hu
    simp only [VR, SR] at hx
    obtain ⟨hid, rfl⟩ := hx
    split at h
    · rename_i sz b0 m hs h0
      split at h
      · rename_i b q h1
        split at h
        · rename_i b' l h2
          obtain ⟨a', ha, he⟩ := mapSome h
          obtain ⟨hb, rfl⟩ := Prod.mk.injEq .. ▸ he
          obtain ⟨hr, l1, l2, l3⟩ := bounds_ok (P := P) hlo hhi hmx false h0 h1 h2 hb hm (Nat.le_refl m0)
          obtain ⟨ad', e1, e2, e3⟩ := sub_addr (μ := μ) ha (.inr rfl) l3 (Nat.le_trans l1 l2)
          refine ⟨.slice (some ad') (q - l) (m - l), ?_, fun w => ?_⟩
          · simp only [VR, SR, e3]
            exact ⟨hid, by omega, ad', rfl, e2⟩
          · have e1' : (some (if m = l then a.conc μ else (a.conc μ).add (l * sz))) = some ad' := by rw [← e1]; split <;> rfl
            simp only [Instr.sliceAt, Sem.run_bind, run_und hu, Result.andThen_ok, hr, run_size hs, Instr.sureAddr, e1', Sem.run_pure]
        · cases h
      · cases h
    · cases h
  · cases h

theorem lenC_ok {t : TypeId} {x v : V} {c : Bool} (h : lenC P t x = some (c, v)) {X : Value} (hx : VR μ A x X) (ts : Array TypeId) (ht : ts[0]? = some t) (ty : TypeId) :
    ∃ z, VR μ A v z ∧ ∀ w, (Builtin.len_ ts ty #[X]).run P w = .ok z w := by
  unfold lenC at h
  try simp only [undX_eq, szX_eq, agX_eq, zvX_eq, knX_eq, gdX_eq, byX_eq, zlX_eq, ikX_eq] at h
  split at h
  · rename_i s hu
    obtain ⟨_, rfl⟩ := some_pair h
    simp only [VR, SR] at hx
    subst hx
    refine ⟨.int .i64 s.length, by simp [VR, SR], fun w => ?_⟩
    have hsz : (⟨s.toArray⟩ : ByteArray).size = s.length := by simp [ByteArray.size]
    simp [Builtin.len_, ht, run_und hu, goInt, hsz]
  · rename_i m e hu
    obtain ⟨_, rfl⟩ := some_pair h
    refine ⟨.int .i64 m, by simp [VR, SR], fun w => ?_⟩
    simp [Builtin.len_, ht, run_und hu, goInt]
  · rename_i e a m cp hu
    obtain ⟨_, rfl⟩ := some_pair h
    simp only [VR] at hx
    refine ⟨.int .i64 m, by simp [VR, SR], fun w => ?_⟩
    cases a with
    | none => simp only [SR] at hx; obtain ⟨rfl, _, rfl⟩ := hx; simp [Builtin.len_, ht, run_und hu, goInt]
    | some a => obtain ⟨_, ad, cc, _, rfl, _⟩ := SR_sl hx; simp [Builtin.len_, ht, run_und hu, goInt]
  · cases h

theorem capC_ok {t : TypeId} {x v : V} {c : Bool} (h : capC P t x = some (c, v)) {X : Value} (hx : VR μ A x X) (ts : Array TypeId) (ht : ts[0]? = some t) (ty : TypeId) :
    ∃ z, VR μ A v z ∧ ∀ w, (Builtin.cap_ ts ty #[X]).run P w = .ok z w := by
  unfold capC at h
  try simp only [undX_eq, szX_eq, agX_eq, zvX_eq, knX_eq, gdX_eq, byX_eq, zlX_eq, ikX_eq] at h
  split at h
  · rename_i e a m cp hu
    obtain ⟨_, rfl⟩ := some_pair h
    simp only [VR] at hx
    refine ⟨.int .i64 cp, by simp [VR, SR], fun w => ?_⟩
    cases a with
    | none => simp only [SR] at hx; obtain ⟨_, hc, rfl⟩ := hx; simp only [Cp.k.injEq] at hc; subst hc; simp [Builtin.cap_, ht, run_und hu, goInt]
    | some a => obtain ⟨_, ad, cc, _, rfl, _, hk, _⟩ := SR_sl hx; obtain rfl := hk cp rfl; simp [Builtin.cap_, ht, run_und hu, goInt]
  · cases h

theorem builtinC_ok {b : Builtin} {ts : Array TypeId} {xs : List V} {v : V} {c : Bool} (h : builtinC P b ts.toList xs = some (c, v)) {Xs : List Value} (hx : VRs μ A xs Xs) (ty : TypeId) (cs : Array Bool) :
    ∃ z, VR μ A v z ∧ ∀ w, (builtin b ts ty cs Xs.toArray).run P w = .ok (.value z) w := by
  obtain ⟨ts⟩ := ts
  unfold builtinC at h
  split at h
  · rename_i t x hts
    simp at hts
    subst hts
    match Xs, hx with
    | [X], hx =>
      simp only [VRs, and_true] at hx
      obtain ⟨z, hz, hr⟩ := lenC_ok h hx #[t] rfl ty
      exact ⟨z, hz, fun w => by simp [builtin, hr]⟩
    | [], hx => simp only [VRs] at hx
    | _ :: _ :: _, hx => simp only [VRs] at hx; exact hx.2.elim
  · rename_i t x hts
    simp at hts
    subst hts
    match Xs, hx with
    | [X], hx =>
      simp only [VRs, and_true] at hx
      obtain ⟨z, hz, hr⟩ := capC_ok h hx #[t] rfl ty
      exact ⟨z, hz, fun w => by simp [builtin, hr]⟩
    | [], hx => simp only [VRs] at hx
    | _ :: _ :: _, hx => simp only [VRs] at hx; exact hx.2.elim
  · rename_i t1 t2 k a k' b hts
    match Xs, hx with
    | [X, Y], hx =>
      simp only [VRs, VR, SR, and_true] at hx
      obtain ⟨rfl, rfl⟩ := hx
      simp only [Bool.cond_eq_ite, ikEq_iff, decide_eq_true_eq] at h
      split at h
      · obtain ⟨_, rfl⟩ := some_pair h
        exact ⟨_, by simp only [VR, SR]; rfl, fun w => by simp [builtin, run_min_int2]⟩
      · cases h
    | [], hx => simp only [VRs] at hx
    | [_], hx => simp only [VRs] at hx; exact hx.2.elim
    | _ :: _ :: _ :: _, hx => simp only [VRs] at hx; exact hx.2.2.elim
  · rename_i t1 t2 k a k' b hts
    match Xs, hx with
    | [X, Y], hx =>
      simp only [VRs, VR, SR, and_true] at hx
      obtain ⟨rfl, rfl⟩ := hx
      simp only [Bool.cond_eq_ite, ikEq_iff, decide_eq_true_eq] at h
      split at h
      · obtain ⟨_, rfl⟩ := some_pair h
        exact ⟨_, by simp only [VR, SR]; rfl, fun w => by simp [builtin, run_max_int2]⟩
      · cases h
    | [], hx => simp only [VRs] at hx
    | [_], hx => simp only [VRs] at hx; exact hx.2.elim
    | _ :: _ :: _ :: _, hx => simp only [VRs] at hx; exact hx.2.2.elim
  · cases h

/-! Literals. -/
theorem fold_set : ∀ (l : List Value) (k off : Nat) (cs : Array Value), ((l.zipIdx k).foldl (fun cs (p : Value × Nat) => cs.setIfInBounds (off + p.2) p.1) cs).size = cs.size ∧
    ∀ j, j < cs.size → ((l.zipIdx k).foldl (fun cs (p : Value × Nat) => cs.setIfInBounds (off + p.2) p.1) cs)[j]? = if off + k ≤ j ∧ j < off + k + l.length then l[j - (off + k)]? else cs[j]?
  | [], k, off, cs => ⟨rfl, fun j _ => by simp; intro h1 h2; omega⟩
  | v :: l, k, off, cs => by
    obtain ⟨h1, h2⟩ := fold_set l (k + 1) off (cs.setIfInBounds (off + k) v)
    simp only [List.zipIdx_cons, List.foldl_cons]
    refine ⟨by rw [h1]; simp, fun j hj => ?_⟩
    rw [h2 j (by simpa using hj)]
    by_cases e : j = off + k
    · subst e
      rw [if_neg (by omega), if_pos (by simp), Array.getElem?_setIfInBounds_self_of_lt hj]
      simp
    · by_cases q : off + (k + 1) ≤ j ∧ j < off + (k + 1) + l.length
      · rw [if_pos q, if_pos (by simp; omega), show j - (off + k) = (j - (off + (k + 1))) + 1 by omega]
        simp
      · rw [if_neg q, if_neg (by simp; omega), Array.getElem?_setIfInBounds_ne (by omega)]

theorem fillC_ok {place place' : Nat → Option (Nat × Nat)} (hp : ∀ i o k, place i = some (o, k) → place' i = some (o, k)) : ∀ (ps : List (Nat × V)) (Ps : List (Nat × Value)) (c c' : List Seg) (cells : Array Value),
    fillC place c ps = some c' → (ps.map (·.1) = Ps.map (·.1)) → VRs μ A (ps.map (·.2)) (Ps.map (·.2)) → CR μ A c cells →
    ∃ cells', Instr.fill place' cells Ps = some cells' ∧ CR μ A c' cells'
  | [], [], c, c', cells, h, _, _, hc => by
    simp [fillC] at h
    subst h
    exact ⟨cells, rfl, hc⟩
  | (i, v) :: ps, (i', x) :: Ps, c, c', cells, h, hi, hx, hc => by
    simp only [List.map_cons, List.cons.injEq] at hi
    obtain ⟨rfl, hi⟩ := hi
    simp only [List.map_cons, VRs] at hx
    simp only [fillC, spine_eq] at h
    split at h
    · rename_i o k cv hpl hcv
      simp only [Bool.cond_eq_ite, Bool.and_eq_true, beq_iff, ble_iff] at h
      split at h
      · rename_i hcc
        obtain ⟨h1, h2⟩ := hcc
        have hxc := content_CR hx.1 hcv
        obtain ⟨s1, s2⟩ := cupd_spec c o cv (by rw [h1]; exact h2)
        obtain ⟨f1, f2⟩ := fold_set x.cells.toList 0 o cells
        have hfold : (Array.foldl (fun cs (p : Value × Nat) => cs.setIfInBounds (o + p.2) p.1) cells x.cells.zipIdx) = (x.cells.toList.zipIdx 0).foldl (fun cs (p : Value × Nat) => cs.setIfInBounds (o + p.2) p.1) cells := by
          rw [← Array.foldl_toList, Array.toList_zipIdx]
        have hxl : x.cells.toList.length = k := by rw [Array.length_toList, hxc.1, h1]
        obtain ⟨cells', g1, g2⟩ := fillC_ok hp ps Ps _ c' ((x.cells.toList.zipIdx 0).foldl (fun cs (p : Value × Nat) => cs.setIfInBounds (o + p.2) p.1) cells) h hi hx.2 ⟨by rw [f1, s1, hc.1], fun j s hj => by
          have hjlt := cat_lt _ _ _ hj
          rw [s1] at hjlt
          rw [s2] at hj
          rw [f2 j (by rw [hc.1]; exact hjlt), hxl]
          rw [h1] at hj
          by_cases q : o ≤ j ∧ j < o + k
          · rw [if_pos q] at hj
            rw [if_pos (by omega)]
            obtain ⟨y, y1, y2⟩ := hxc.2 _ s hj
            exact ⟨y, by rw [Nat.add_zero, Array.getElem?_toList]; exact y1, y2⟩
          · rw [if_neg q] at hj
            rw [if_neg (by omega)]
            exact hc.2 j s hj⟩
        refine ⟨cells', ?_, g2⟩
        simp only [Instr.fill, hp _ _ _ hpl]
        rw [if_neg (by rw [hxc.1, h1, hc.1]; simp; omega)]
        exact hfold ▸ g1
      · cases h
    · cases h
  | [], _ :: _, _, _, _, _, hi, _, _ => by simp at hi
  | _ :: _, [], _, _, _, _, hi, _, _ => by simp at hi

theorem places_get {fs : List Field} {pl : List (Nat × Nat)} (h : fs.mapM (fun f => (P.info? f.type).map fun i => (f.offset, i.size)) = some pl) : ∀ i o k, placesOf P fs i = some (o, k) → pl[i]? = some (o, k) := by
  induction fs generalizing pl with
  | nil => intro i o k hi; simp [placesOf] at hi
  | cons f fs ih =>
    simp only [List.mapM_cons, Option.bind_eq_bind, Option.pure_def] at h
    cases hf : P.info? f.type with
    | none => simp [hf] at h
    | some q =>
      cases hr : fs.mapM (fun f => (P.info? f.type).map fun i => (f.offset, i.size)) with
      | none => simp [hf, hr] at h
      | some rest =>
        simp [hf, hr] at h
        subst h
        intro i o k hi
        cases i with
        | zero => simp [placesOf, szX_eq, sizeT, hf] at hi; simp [hi]
        | succ i => simpa using ih hr i o k (by simpa [placesOf] using hi)

theorem all_places : ∀ (fs : List Field), (fs.all fun f => (sizeT P f.type).isSome) = true → ∃ pl, fs.mapM (fun f => (P.info? f.type).map fun i => (f.offset, i.size)) = some pl
  | [], _ => ⟨[], rfl⟩
  | f :: fs, h => by
    simp only [List.all_cons, Bool.and_eq_true] at h
    obtain ⟨pl, h2⟩ := all_places fs h.2
    unfold sizeT at h
    cases hf : P.info? f.type with
    | none => simp [hf] at h
    | some q => exact ⟨(f.offset, q.size) :: pl, by simp [List.mapM_cons, hf, h2]⟩

theorem zeroV_info {t : TypeId} {v : V} (h : zeroV P t = some v) : ∃ i x, P.info? t = some i ∧ i.zero = some x ∧ ∀ μ A, VR μ A v x := by
  obtain ⟨x, h1, h2⟩ := zeroV_spec h
  have h3 := h1 ⟨#[], fun _ _ => 0, 0, default, #[]⟩
  cases hi : P.info? t with
  | none => simp [zeroV, hi] at h
  | some i =>
    cases hz : i.zero with
    | none => simp [zeroV, hi, hz] at h
    | some z =>
      simp [zeroValue, typeInfo, hi, hz] at h3
      exact ⟨i, x, rfl, by rw [hz, h3], h2⟩

theorem partsOf_ok {e : Operand → Option V} {ρ : Operand → Value} (he : ∀ x v, e x = some v → VR μ A v (ρ x)) : ∀ (l : List (Nat × Operand)) (ps : List (Nat × V)), partsOf e l = some ps →
    ps.map (·.1) = (l.map fun p => (p.1, ρ p.2)).map (·.1) ∧ VRs μ A (ps.map (·.2)) ((l.map fun p => (p.1, ρ p.2)).map (·.2))
  | [], ps, h => by simp [partsOf] at h; subst h; exact ⟨rfl, by simp [VRs]⟩
  | (i, x) :: r, ps, h => by
    simp only [partsOf] at h
    split at h
    · rename_i v l h1 h2
      simp at h
      subst h
      obtain ⟨g1, g2⟩ := partsOf_ok he r l h2
      exact ⟨by simp only [List.map_cons, g1], by simp only [List.map_cons, VRs]; exact ⟨he x v h1, g2⟩⟩
    · cases h

theorem buildC_ok {t : TypeId} {ps : List (Nat × V)} {v : V} (h : buildC P t ps = some v) {Ps : Array (Nat × Value)} (h1 : ps.map (·.1) = Ps.toList.map (·.1)) (h2 : VRs μ A (ps.map (·.2)) (Ps.toList.map (·.2))) :
    ∃ z, VR μ A v z ∧ ∀ w, (Instr.build t Ps).run P w = .ok z w := by
  unfold buildC at h
  try simp only [undX_eq, szX_eq, agX_eq, zvX_eq, knX_eq, gdX_eq, byX_eq, zlX_eq, ikX_eq] at h
  split at h
  · rename_i z fs hz hu
    simp only [Bool.cond_eq_ite] at h
    split at h
    · rename_i hall
      obtain ⟨c', hf, rfl⟩ := mapSome h
      obtain ⟨it, x, hi, hzz, hv⟩ := zeroV_info hz
      have hv' := hv μ A
      simp only [VR] at hv'
      obtain ⟨cells, rfl, hc⟩ := hv'
      obtain ⟨pl, hpl⟩ := all_places fs.toList hall
      obtain ⟨cells', g1, g2⟩ := fillC_ok (place' := fun i => pl.toArray[i]?) (fun i o k hi => by simpa using places_get hpl i o k hi) ps Ps.toList z c' cells hf h1 h2 hc
      exact ⟨.agg cells', by simp only [VR]; exact ⟨_, rfl, g2⟩, fun w => run_build w t Ps cells' (by simp only [Program.built, hi, hu, hzz, hpl, Value.cells]; exact g1)⟩
    · cases h
  · rename_i z m e hz hu
    split at h
    · rename_i k hs
      obtain ⟨c', hf, rfl⟩ := mapSome h
      obtain ⟨it, x, hi, hzz, hv⟩ := zeroV_info hz
      have hv' := hv μ A
      simp only [VR] at hv'
      obtain ⟨cells, rfl, hc⟩ := hv'
      obtain ⟨ie, hie, hsz⟩ := sizeT_info hs
      obtain ⟨cells', g1, g2⟩ := fillC_ok (place' := fun i => some (i * ie.size, ie.size)) (fun i o k hi => by rw [hsz]; exact hi) ps Ps.toList z c' cells hf h1 h2 hc
      exact ⟨.agg cells', by simp only [VR]; exact ⟨_, rfl, g2⟩, fun w => run_build w t Ps cells' (by simp only [Program.built, hi, hu, hzz, hie, Value.cells]; exact g1)⟩
    · cases h
  · cases h

theorem argsOf_ok {e : Operand → Option V} {ρ : Operand → Value} (he : ∀ x v, e x = some v → VR μ A v (ρ x)) : ∀ (l : List Operand) (vs : List V), argsOf e l = some vs → VRs μ A vs (l.map ρ)
  | [], vs, h => by simp [argsOf] at h; subst h; simp [VRs]
  | x :: r, vs, h => by
    simp only [argsOf] at h
    split at h
    · rename_i v l h1 h2
      simp at h
      subst h
      simp only [List.map_cons, VRs]
      exact ⟨he x v h1, argsOf_ok he r l h2⟩
    · cases h

theorem optOf_ok {e : Operand → Option V} {ρ : Operand → Value} (he : ∀ x v, e x = some v → VR μ A v (ρ x)) {o : Option Operand} {v : Option V} (h : optOf e o = some v) : OR μ A v (o.map ρ) := by
  cases o with
  | none => simp [optOf] at h; subst h; simp [OR]
  | some x =>
    simp only [optOf] at h
    obtain ⟨u, h1, rfl⟩ := mapSome h
    exact he x u h1

/-- All operations that look at no memory: what they yield, in whatever world. -/
theorem pureC_ok {o : Oper} {e : Operand → Option V} {ρ : Operand → Value} (he : ∀ x v, e x = some v → VR μ A v (ρ x)) {v : V} {c : Bool} (h : pureC P e o.op = some (c, v)) (hc : c = true) :
    ∃ z, VR μ A v z ∧ ∀ w, (execOp ρ o).run P w = .ok (.value z) w := by
  obtain ⟨dst, op, type, pos, after, guard⟩ := o
  replace h : pureC P e op = some (c, v) := h
  unfold pureC at h
  try simp only [undX_eq, szX_eq, agX_eq, zvX_eq, knX_eq, gdX_eq, byX_eq, zlX_eq, ikX_eq] at h
  split at h
  case h_1 _ x =>
    obtain ⟨u, h1, he'⟩ := mapSome h
    obtain ⟨_, rfl⟩ := Prod.mk.injEq .. ▸ he'
    exact ⟨ρ x, he _ _ h1, fun w => by simp [execOp]⟩
  case h_2 _ x =>
    obtain ⟨u, h1, he'⟩ := mapSome h
    obtain ⟨_, rfl⟩ := Prod.mk.injEq .. ▸ he'
    exact ⟨ρ x, he _ _ h1, fun w => by simp [execOp]⟩
  case h_3 _ cn a b =>
    split at h
    · rename_i t hcn
      have hC := he _ _ hcn
      simp only [VR, SR] at hC
      split at h
      · rename_i x y ha hb
        have hA := he _ _ ha
        have hB := he _ _ hb
        simp only [VR, SR] at hA hB
        obtain ⟨_, rfl⟩ := some_pair h
        exact ⟨.bool (cond t x y), by simp [VR, SR], fun w => by cases t <;> simp [execOp, hC, asBool, hA, hB]⟩
      · cases t with
        | true =>
          obtain ⟨u, h1, he'⟩ := mapSome h
          obtain ⟨_, rfl⟩ := Prod.mk.injEq .. ▸ he'
          exact ⟨ρ a, he _ _ h1, fun w => by simp [execOp, hC, asBool]⟩
        | false =>
          obtain ⟨u, h1, he'⟩ := mapSome h
          obtain ⟨_, rfl⟩ := Prod.mk.injEq .. ▸ he'
          exact ⟨ρ b, he _ _ h1, fun w => by simp [execOp, hC, asBool]⟩
    · cases h
  case h_4 _ x =>
    split at h
    · rename_i a hx
      have hX := he _ _ hx
      obtain ⟨_, rfl⟩ := some_pair h
      refine ⟨ρ x, hX, fun w => ?_⟩
      simp only [VR, SR] at hX
      simp [execOp, hX.2]
    · rename_i t q hx
      have hX := he _ _ hx
      obtain ⟨_, rfl⟩ := some_pair h
      refine ⟨ρ x, hX, fun w => ?_⟩
      simp only [VR, SR] at hX
      obtain ⟨y, hy, _⟩ := hX
      simp [execOp, hy]
    · rename_i f cs hx
      have hX := he _ _ hx
      obtain ⟨_, rfl⟩ := some_pair h
      refine ⟨ρ x, hX, fun w => ?_⟩
      simp only [VR, SR] at hX
      simp [execOp, hX.2]
    · cases h
  case h_5 _ bop t x y yt =>
    split at h
    · rename_i u q hx hy
      obtain ⟨z, hz, hr⟩ := binC_ok (P := P) h hc (he _ _ hx) (he _ _ hy)
      refine ⟨z, hz, fun w => ?_⟩
      have := hr w
      simp only [execOp, Sem.run_bind] at this ⊢
      rw [this]
      rfl
    · cases h
  case h_6 _ uop t x =>
    obtain ⟨u, h1, h2⟩ := Option.bind_eq_some_iff.1 h
    obtain ⟨z, hz, hr⟩ := unC_ok (P := P) h2 (he _ _ h1)
    exact ⟨z, hz, fun w => by simp [execOp, hr]⟩
  case h_7 _ s d x =>
    obtain ⟨u, h1, h2⟩ := Option.bind_eq_some_iff.1 h
    obtain ⟨z, hz, hr⟩ := convC_ok (P := P) h2 (he _ _ h1)
    exact ⟨z, hz, fun w => by simp [execOp, hr]⟩
  case h_8 _ t x =>
    split at h
    · cases h
    · rename_i q d hno hx hu
      have hX := he _ _ hx
      obtain ⟨_, rfl⟩ := some_pair h
      simp only [VR] at hX
      refine ⟨.iface t (ρ x), by simp only [VR, SR]; exact ⟨_, rfl, hX⟩, fun w => ?_⟩
      simp only [execOp, Instr.makeInterface, Sem.run_bind, run_und hu, Result.andThen_ok]
      cases d <;> first | rfl | (exact (hno _ rfl).elim)
    · cases h
  case h_9 _ x k =>
    split at h
    · rename_i vs hx
      obtain ⟨u, h1, he'⟩ := mapSome h
      obtain ⟨_, rfl⟩ := Prod.mk.injEq .. ▸ he'
      have hX := he _ _ hx
      simp only [VR] at hX
      obtain ⟨xs, hxs, hr⟩ := hX
      obtain ⟨y, hy, hv⟩ := VRs.get vs xs k _ hr h1
      exact ⟨y, hv, fun w => by simp [execOp, hxs, Instr.extract, hy]⟩
    · cases h
  case h_10 _ t x f =>
    obtain ⟨u, h1, h2⟩ := Option.bind_eq_some_iff.1 h
    obtain ⟨z, hz, hr⟩ := fieldC_ok (P := P) h2 (he _ _ h1)
    exact ⟨z, hz, fun w => by simp [execOp, hr]⟩
  case h_11 _ t x f =>
    obtain ⟨u, h1, h2⟩ := Option.bind_eq_some_iff.1 h
    obtain ⟨z, hz, hr⟩ := fieldAddrC_ok (P := P) h2 (he _ _ h1)
    exact ⟨z, hz, fun w => by simp [execOp, hr]⟩
  case h_12 _ t x i =>
    split at h
    · rename_i u q hx hi
      obtain ⟨z, hz, hr⟩ := indexAddrC_ok (P := P) h hc (he _ _ hx) (he _ _ hi)
      exact ⟨z, hz, fun w => by simp [execOp, hr]⟩
    · cases h
  case h_13 _ t x i =>
    split at h
    · rename_i u q hx hi
      obtain ⟨z, hz, hr⟩ := indexC_ok (P := P) h hc (he _ _ hx) (he _ _ hi)
      exact ⟨z, hz, fun w => by simp [execOp, hr]⟩
    · cases h
  case h_14 _ t x lo hi mx =>
    split at h
    · rename_i u a b q hx hlo hhi hmx
      obtain ⟨z, hz, hr⟩ := sliceC_ok (P := P) h hc (he _ _ hx) (optOf_ok he hlo) (optOf_ok he hhi) (optOf_ok he hmx)
      exact ⟨z, hz, fun w => by simp [execOp, hr]⟩
    · cases h
  case h_15 _ t parts =>
    obtain ⟨u, h1, he'⟩ := mapSome h
    obtain ⟨_, rfl⟩ := Prod.mk.injEq .. ▸ he'
    obtain ⟨ps, h2, h3⟩ := Option.bind_eq_some_iff.1 h1
    obtain ⟨g1, g2⟩ := partsOf_ok he _ _ h2
    obtain ⟨z, hz, hr⟩ := buildC_ok (P := P) h3 (Ps := parts.map fun p => (p.1, ρ p.2)) (by simpa using g1) (by simpa using g2)
    exact ⟨z, hz, fun w => by simp [execOp, hr]⟩
  case h_16 _ cl =>
    obtain ⟨callee, args, ts⟩ := cl
    cases callee with
    | builtin b =>
      obtain ⟨xs, h1, h2⟩ := Option.bind_eq_some_iff.1 h
      have hX := argsOf_ok he _ _ h1
      obtain ⟨z, hz, hr⟩ := builtinC_ok (P := P) h2 hX type (args.map fun | .const _ => true | _ => false)
      refine ⟨z, hz, fun w => ?_⟩
      have e1 : ((args.toList).map ρ).toArray = args.map ρ := by cases args; simp
      replace hr : ∀ w, (builtin b ts type (args.map fun | .const _ => true | _ => false) ((args.toList).map ρ).toArray).run P w = .ok (.value z) w := hr
      rw [e1] at hr
      show ((do let d ← resolve ρ ⟨.builtin b, args, ts⟩ type; invoke d.target d.args) : Sem Next).run P w = _
      simp only [resolve, Sem.run_bind, Sem.run_pure, Result.andThen_ok, invoke]
      exact hr w
    | value f => cases h
    | invoke r m => cases h
  case h_17 => cases h

end
end Go.Proofs.YteionboacdkfjaaDoor.X
