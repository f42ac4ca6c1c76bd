/-
  X, part G: addresses, parts, slices, literals; all operations that look at no memory, together.
-/
import Derived.Test.YteionboacdkfjaaDoorYF
namespace Go.Proofs.YteionboacdkfjaaDoor.X
set_option linter.unusedSectionVars false

section
variable {P : Program} [Tb P] {μ : Mu} {A : Nat → Prop}

theorem conc_addF (a : AA) (d : Nat) : (a.addF d).conc μ = (a.conc μ).add d := by
  obtain ⟨id, o, ix⟩ := a
  cases ix with
  | none =>
    simp only [AA.addF, AA.conc, AA.real, Addr.add]
    split
    · rename_i h; subst h; simp
    · simp [Nat.add_assoc]
  | some q =>
    obtain ⟨r, s, f⟩ := q
    simp only [AA.addF, AA.conc, AA.real, Addr.add]
    split
    · rename_i h; subst h; simp
    · simp [Nat.add_assoc]
theorem id_addF (a : AA) (d : Nat) : (a.addF d).id = a.id := by
  obtain ⟨id, o, ix⟩ := a
  cases ix <;> rfl

theorem addI_ok {a b : AA} {i sz : Nat} (h : a.addI i sz = some b) : b.id = a.id ∧ b.real = a.real + i * sz ∧ b.conc μ = (a.conc μ).add (i * sz) := by
  obtain ⟨id, o, ix⟩ := a
  have key : b.id = id ∧ b.real = AA.real ⟨id, o, ix⟩ + i * sz := by
    cases ix with
    | none => simp [AA.addI] at h; subst h; exact ⟨rfl, by simp [AA.real]⟩
    | some q =>
      obtain ⟨r, s, f⟩ := q
      simp only [AA.addI, Bool.cond_eq_ite, Bool.and_eq_true, beq_iff] at h
      split at h
      · rename_i hc
        obtain ⟨rfl, rfl⟩ := hc
        simp at h
        subst h
        exact ⟨rfl, by simp [AA.real, Nat.add_mul, Nat.add_assoc]⟩
      · simp at h
        subst h
        exact ⟨rfl, by simp [AA.real, Nat.add_assoc]⟩
  refine ⟨key.1, key.2, ?_⟩
  simp only [AA.conc, key.1, key.2, Addr.add]
  split
  · rename_i h0; simp [h0]
  · simp [Nat.add_assoc]

theorem unC_ok {op : UnOp} {x v : V} {c : Bool} (h : unC op x = some (c, v)) {X : Value} (hx : VR μ A x X) : ∃ z, VR μ A v z ∧ ∀ w, (Op.unary op X).run P w = .ok z w := by
  unfold unC at h
  split at h
  · obtain ⟨_, rfl⟩ := some_pair h
    simp only [VR, SR] at hx
    subst hx
    exact ⟨_, by simp only [VR, SR]; rfl, fun w => by simp [Op.unary, Op.intArith]⟩
  · simp only [bitsI, Option.map_some] at h
    obtain ⟨_, rfl⟩ := some_pair h
    simp only [VR, SR] at hx
    subst hx
    exact ⟨_, by simp only [VR, SR]; rfl, fun w => by simp [xorI, Op.unary, Op.intBits]⟩
  · obtain ⟨_, rfl⟩ := some_pair h
    simp only [VR, SR] at hx
    subst hx
    exact ⟨_, by simp only [VR, SR]; rfl, fun w => by simp [Op.unary]⟩
  · cases h

theorem convC_ok {s d : TypeId} {x v : V} {c : Bool} (h : convC P s d x = some (c, v)) {X : Value} (hx : VR μ A x X) : ∃ z, VR μ A v z ∧ ∀ w, (convert s d X).run P w = .ok z w := by
  unfold convC at h
  try simp only [undX_eq, szX_eq, agX_eq, zvX_eq, knX_eq, gdX_eq, byX_eq, zlX_eq, ikX_eq] at h
  split at h
  · rename_i ds k k' m hs hd
    obtain ⟨_, rfl⟩ := some_pair h
    simp only [VR, SR] at hx
    subst hx
    exact ⟨_, by simp only [VR, SR]; rfl, fun w => by simp [convert, run_und hs, run_und hd, Conv.intToInt]⟩
  · rename_i ds l hs hd
    obtain ⟨_, rfl⟩ := some_pair h
    simp only [VR, SR] at hx
    subst hx
    refine ⟨.string ⟨l.toArray⟩, by simp only [VR, SR], fun w => ?_⟩
    rw [convert, Sem.run_bind, run_und hs, Result.andThen_ok, Sem.run_bind, run_und hd, Result.andThen_ok]
    cases ds <;> rfl
  · cases h

theorem fieldOf_ok {t : TypeId} {f : Nat} {fd : Field} (h : fieldOf P t f = some fd) : ∃ fs, P.underlying t = some (.struct fs) ∧ fs[f]? = some fd := by
  unfold fieldOf at h
  try simp only [undX_eq, szX_eq, agX_eq, zvX_eq, knX_eq, gdX_eq, byX_eq, zlX_eq, ikX_eq] at h
  split at h
  · rename_i fs hu; exact ⟨fs, hu, h⟩
  · cases h

theorem fieldAddrC_ok {t : TypeId} {x v : V} {f : Nat} {c : Bool} (h : fieldAddrC P t x f = some (c, v)) {X : Value} (hx : VR μ A x X) : ∃ z, VR μ A v z ∧ ∀ w, (Instr.fieldAt t X f).run P w = .ok z w := by
  unfold fieldAddrC at h
  try simp only [undX_eq, szX_eq, agX_eq, zvX_eq, knX_eq, gdX_eq, byX_eq, zlX_eq, ikX_eq] at h
  split at h
  · rename_i a fd hf
    split at h
    · rename_i m hs
      obtain ⟨_, rfl⟩ := some_pair h
      obtain ⟨fs, hu, hfd⟩ := fieldOf_ok hf
      simp only [VR, SR] at hx
      obtain ⟨hid, rfl⟩ := hx
      refine ⟨.pointer (some ((a.addF fd.offset).conc μ)), by simp only [VR, SR, id_addF]; exact ⟨hid, trivial⟩, fun w => ?_⟩
      simp [Instr.fieldAt, run_und hu, hfd, Instr.sureAddr, fieldPlace, run_size hs, conc_addF]
    · cases h
  · cases h

theorem mapSome {α β : Type} {x : Option α} {f : α → β} {y : β} (h : x.map f = some y) : ∃ a, x = some a ∧ f a = y := by
  cases x <;> simp at h
  exact ⟨_, rfl, h⟩

theorem inB_iff {i : Int} {m : Nat} : inB i m = true ↔ 0 ≤ i ∧ i < m := by simp [inB]

theorem SR_sl {a : AA} {l : Nat} {cp : Cp} {X : Value} (h : SR μ A (.sl (some a) l cp) X) : A a.id ∧ ∃ ad c, l ≤ c ∧ X = .slice (some ad) l c ∧ (c = 0 ∨ ad = a.conc μ) ∧ (∀ k, cp = .k k → c = k) ∧ (∀ sz, cp = .g sz → c = 0 ∨ a.real + c * sz ≤ (μ a.id).fin) := by
  cases cp with
  | g sz => simp only [SR] at h; obtain ⟨h1, ad, c, h2, h3, h4⟩ := h; exact ⟨h1, ad, c, h2, h3, h4.imp id (·.1), fun k hk => (by cases hk), fun sz hs => (by cases hs; exact h4.imp id (·.2))⟩
  | k c => simp only [SR] at h; obtain ⟨h1, h2, ad, h3, h4⟩ := h; exact ⟨h1, ad, c, h2, h3, h4, fun k hk => (by cases hk; rfl), fun sz hs => (by cases hs)⟩

theorem indexAddrC_ok {t : TypeId} {x ix v : V} {c : Bool} (h : indexAddrC P t x ix = some (c, v)) (hc : c = true) {X I : Value} (hx : VR μ A x X) (hi : VR μ A ix I) :
    ∃ z, VR μ A v z ∧ ∀ w, (Instr.indexAt t X I).run P w = .ok z w := by
  subst hc
  unfold indexAddrC at h
  try simp only [undX_eq, szX_eq, agX_eq, zvX_eq, knX_eq, gdX_eq, byX_eq, zlX_eq, ikX_eq] at h
  split at h
  · rename_i k i
    simp only [VR, SR] at hi
    subst hi
    split at h
    · rename_i m e a hu
      simp only [VR, SR] at hx
      obtain ⟨hid, rfl⟩ := hx
      split at h
      · rename_i sz hs
        obtain ⟨b, hb, he⟩ := mapSome h
        obtain ⟨h1, rfl⟩ := Prod.mk.injEq .. ▸ he
        rw [inB_iff] at h1
        obtain ⟨g1, g2, g3⟩ := addI_ok (μ := μ) hb
        refine ⟨.pointer (some (b.conc μ)), by simp only [VR, SR, g1]; exact ⟨hid, trivial⟩, fun w => ?_⟩
        simp [Instr.indexAt, asIntOf, run_und hu, Instr.sureAddr, h1, run_size hs, g3]
      · cases h
    · rename_i e a m cp hu
      simp only [VR] at hx
      obtain ⟨hid, ad, cc, hl, rfl, hcc, _⟩ := SR_sl hx
      split at h
      · rename_i sz hs
        obtain ⟨b, hb, he⟩ := mapSome h
        obtain ⟨h1, rfl⟩ := Prod.mk.injEq .. ▸ he
        rw [inB_iff] at h1
        obtain ⟨g1, g2, g3⟩ := addI_ok (μ := μ) hb
        have hne : cc ≠ 0 := by omega
        have had : ad = a.conc μ := hcc.resolve_left hne
        subst had
        refine ⟨.pointer (some (b.conc μ)), by simp only [VR, SR, g1]; exact ⟨hid, trivial⟩, fun w => ?_⟩
        simp [Instr.indexAt, asIntOf, run_und hu, h1, run_size hs, g3]
      · cases h
    · cases h
  · cases h

theorem partC_ok {t : TypeId} {cs : List Seg} {o : Nat} {v : V} {c : Bool} (h : partC P t cs o = some (c, v)) {cells : Array Value} (hx : CR μ A cs cells) :
    ∃ z, VR μ A v z ∧ ∀ w, (part t cells o).run P w = .ok z w := by
  unfold partC at h
  try simp only [undX_eq, szX_eq, agX_eq, zvX_eq, knX_eq, gdX_eq, byX_eq, zlX_eq, ikX_eq] at h
  split at h
  · rename_i m ha hs
    obtain ⟨x, h1, rfl⟩ := mapR_some h
    obtain ⟨h2, h3, h4⟩ := subC_spec h1
    refine ⟨.agg (cells.extract o (o + m)), ?_, fun w => by simp [part, run_isAgg ha, run_size hs]⟩
    simp only [VR]
    refine ⟨_, rfl, by rw [Array.size_extract, h3, hx.1]; omega, fun j s hj => ?_⟩
    have hjm : j < m := by have := cat_lt x j s hj; omega
    rw [h4 j hjm] at hj
    obtain ⟨y, h5, h6⟩ := hx.2 _ s hj
    refine ⟨y, ?_, h6⟩
    rw [Array.getElem?_extract, if_pos (by rw [hx.1]; omega)]
    exact h5
  · rename_i ha
    obtain ⟨s, h1, he⟩ := mapSome h
    obtain ⟨_, rfl⟩ := Prod.mk.injEq .. ▸ he
    obtain ⟨y, h5, h6⟩ := hx.2 _ s h1
    exact ⟨y, by simpa only [VR] using h6, fun w => by simp [part, run_isAgg ha, h5]⟩
  · cases h

theorem fieldC_ok {t : TypeId} {x v : V} {f : Nat} {c : Bool} (h : fieldC P t x f = some (c, v)) {X : Value} (hx : VR μ A x X) : ∃ z, VR μ A v z ∧ ∀ w, (Instr.field t X f).run P w = .ok z w := by
  unfold fieldC at h
  try simp only [undX_eq, szX_eq, agX_eq, zvX_eq, knX_eq, gdX_eq, byX_eq, zlX_eq, ikX_eq] at h
  split at h
  · rename_i cs fd hf
    obtain ⟨fs, hu, hfd⟩ := fieldOf_ok hf
    simp only [VR] at hx
    obtain ⟨cells, rfl, hx⟩ := hx
    obtain ⟨z, hz, hr⟩ := partC_ok h hx
    exact ⟨z, hz, fun w => by simp [Instr.field, run_und hu, hfd, asAgg, hr]⟩
  · cases h

theorem indexC_ok {t : TypeId} {x ix v : V} {c : Bool} (h : indexC P t x ix = some (c, v)) (hc : c = true) {X I : Value} (hx : VR μ A x X) (hi : VR μ A ix I) :
    ∃ z, VR μ A v z ∧ ∀ w, (Instr.index t X I).run P w = .ok z w := by
  subst hc
  unfold indexC at h
  try simp only [undX_eq, szX_eq, agX_eq, zvX_eq, knX_eq, gdX_eq, byX_eq, zlX_eq, ikX_eq] at h
  split at h
  · rename_i k i
    simp only [VR, SR] at hi
    subst hi
    split at h
    · rename_i s hu
      obtain ⟨h1, rfl⟩ := some_pair h
      rw [inB_iff] at h1
      simp only [VR, SR] at hx
      subst hx
      refine ⟨.int .u8 ((s.getD i.toNat 0).toNat : Nat), by simp only [VR, SR], fun w => ?_⟩
      have hlt : i.toNat < s.length := by omega
      have hsz : i.toNat < (⟨s.toArray⟩ : ByteArray).size := by simpa [ByteArray.size] using hlt
      have hg : (⟨s.toArray⟩ : ByteArray)[i.toNat]? = some (s.getD i.toNat 0) := by
        rw [getElem?_pos (⟨s.toArray⟩ : ByteArray) i.toNat hsz]
        simp only [ByteArray.getElem_eq_getElem_data]
        simp [List.getD_eq_getElem?_getD, List.getElem?_eq_getElem hlt]
      simp [Instr.index, asIntOf, run_und hu, h1.1, hg]
    · rename_i m e k' m' g hu
      simp only [Bool.cond_eq_ite, beq_iff] at h
      split at h
      · rename_i hm
        subst hm
        split at h
        · rename_i kk hk hs
          obtain ⟨h1, rfl⟩ := some_pair h
          rw [inB_iff] at h1
          simp only [VR] at hx
          obtain ⟨cells, rfl, hx⟩ := hx
          have hlt : i.toNat < m := by omega
          obtain ⟨y, h2, h3⟩ := hx.2 i.toNat (.i k' (g i.toNat)) (by rw [cat_cons, if_pos (by simpa [Seg.size] using hlt)]; rfl)
          refine ⟨y, by simpa only [VR] using h3, fun w => ?_⟩
          have ha : isAggT P e = some false := by
            unfold isInt at hk
            unfold isAggT
            split at hk
            · rename_i q hq; rw [hq]
            · cases hk
          simp [Instr.index, asIntOf, run_und hu, h1, run_size hs, part, run_isAgg ha, h2]
        · cases h
      · cases h
    · rename_i m e cs hno hu
      split at h
      · rename_i sz hs
        split at h
        · rename_i b v' hp
          obtain ⟨h1, rfl⟩ := some_pair h
          simp only [Bool.and_eq_true, inB_iff] at h1
          simp only [VR] at hx
          obtain ⟨cells, rfl, hx⟩ := hx
          obtain ⟨z, hz, hr⟩ := partC_ok hp hx
          exact ⟨z, hz, fun w => by simp [Instr.index, asIntOf, run_und hu, h1.2, run_size hs, hr]⟩
        · cases h
      · cases h
    · cases h
  · cases h

/-- An operand that may be missing. -/
def OR (μ : Mu) (A : Nat → Prop) : Option V → Option Value → Prop
  | none, none => True
  | some v, some x => VR μ A v x
  | _, _ => False

theorem bound_ok {x : Option V} {X : Option Value} (hx : OR μ A x X) {d top q : Nat} {b : Bool} (h : boundC x d top = some (b, q)) (hb : b = true) (code : BoundsCode) :
    (∀ v, X = some v → ∀ w, (Instr.sliceBound v top code).run P w = .ok q w) ∧ (X = none → q = d) ∧ (X ≠ none → q ≤ top) := by
  subst hb
  unfold boundC at h
  split at h
  · obtain ⟨_, rfl⟩ := some_pair h
    cases X with
    | none => exact ⟨fun v hv => (by cases hv), fun _ => rfl, fun h => absurd rfl h⟩
    | some X => simp [OR] at hx
  · rename_i k i
    obtain ⟨h1, rfl⟩ := some_pair h
    cases X with
    | none => simp [OR] at hx
    | some X =>
      simp only [OR, VR, SR] at hx
      subst hx
      simp only [Bool.and_eq_true, decide_eq_true_eq] at h1
      refine ⟨fun v hv w => ?_, fun h => (by cases h), fun _ => by omega⟩
      cases hv
      simp [Instr.sliceBound, asIntOf, h1]
  · cases h

theorem bounds_ok {lo hi mx : Option V} {Lo Hi Mx : Option Value} (hlo : OR μ A lo Lo) (hhi : OR μ A hi Hi) (hmx : OR μ A mx Mx) (isSl : Bool) {len cap m q l : Nat} {b0 b b' : Bool}
    (h0 : boundC mx cap cap = some (b0, m)) (h1 : boundC hi len m = some (b, q)) (h2 : boundC lo 0 q = some (b', l)) (hb : (b0 && (b && b')) = true) (hm : Mx ≠ none → Hi ≠ none) (hlc : len ≤ cap) :
    (∀ w, (Instr.sliceBounds isSl len cap Lo Hi Mx).run P w = .ok (l, q, m) w) ∧ l ≤ q ∧ q ≤ m ∧ m ≤ cap := by
  simp only [Bool.and_eq_true] at hb
  obtain ⟨hb0, hb1, hb2⟩ := hb
  have e0 := fun code => bound_ok (P := P) hmx h0 hb0 code
  have e1 := fun code => bound_ok (P := P) hhi h1 hb1 code
  have e2 := fun code => bound_ok (P := P) hlo h2 hb2 code
  have l1 : l ≤ q := by
    cases hL : Lo with
    | none => have := (e2 .index).2.1 hL; omega
    | some x => exact (e2 .index).2.2 (by rw [hL]; simp)
  have l3 : m ≤ cap := by
    cases hL : Mx with
    | none => have := (e0 .index).2.1 hL; omega
    | some x => exact (e0 .index).2.2 (by rw [hL]; simp)
  have l2 : q ≤ m := by
    cases hL : Hi with
    | none =>
      have h3 := (e1 .index).2.1 hL
      cases hM : Mx with
      | none => have := (e0 .index).2.1 hM; omega
      | some x => exact absurd hL (hm (by rw [hM]; simp))
    | some x => exact (e1 .index).2.2 (by rw [hL]; simp)
  refine ⟨fun w => ?_, l1, l2, l3⟩
  unfold Instr.sliceBounds
  cases hM : Mx with
  | none =>
    obtain rfl := (e0 .index).2.1 hM
    cases hH : Hi with
    | none =>
      obtain rfl := (e1 .index).2.1 hH
      cases hL : Lo with
      | none => obtain rfl := (e2 .index).2.1 hL; rfl
      | some x => simp [(e2 _).1 x hL w]
    | some y =>
      cases hL : Lo with
      | none => obtain rfl := (e2 .index).2.1 hL; simp [(e1 _).1 y hH w]
      | some x => simp [(e1 _).1 y hH w, (e2 _).1 x hL w]
  | some z =>
    cases hH : Hi with
    | none => exact absurd hH (hm (by rw [hM]; simp))
    | some y =>
      cases hL : Lo with
      | none => obtain rfl := (e2 .index).2.1 hL; simp [(e0 _).1 z hM w, (e1 _).1 y hH w]
      | some x => simp [(e0 _).1 z hM w, (e1 _).1 y hH w, (e2 _).1 x hL w]

end
end Go.Proofs.YteionboacdkfjaaDoor.X
