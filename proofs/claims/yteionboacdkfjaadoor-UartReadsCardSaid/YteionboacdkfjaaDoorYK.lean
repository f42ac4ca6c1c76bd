/-
  X, part K: 'append', 'copy'; one operation that makes no call.
-/
import Derived.Test.YteionboacdkfjaaDoorYJ
namespace Go.Proofs.YteionboacdkfjaaDoor.X
set_option linter.unusedSectionVars false

section
variable {P : Program} [Tb P] {μ : Mu} {A : Nat → Prop} {h : H} {w : World}

theorem CR.one {c : List Seg} {xs : Array Value} (hc : CR μ A c xs) : ∀ v ∈ xs.toList, v.oneCell' = true := fun u hu => by
  obtain ⟨j, hj⟩ := List.getElem?_of_mem hu
  have hj' : xs[j]? = some u := by simpa using hj
  have hlt := lt_of_some hj'
  rw [hc.1] at hlt
  obtain ⟨s, hs⟩ := cat_some c j hlt
  obtain ⟨y, y1, y2⟩ := hc.2 j s hs
  rw [hj'] at y1
  cases y1
  exact SR_one y2

theorem growBy_le (n : Nat) : ∀ (r c : Nat), Builtin.growBy n r c ≤ 2 ^ r * c + 1000 * 2 ^ r
  | 0, c => by simp [Builtin.growBy]
  | r + 1, c => by
    unfold Builtin.growBy
    have h2 : 2 ^ (r + 1) = 2 * 2 ^ r := by rw [Nat.pow_succ]; omega
    have hp : 1 ≤ 2 ^ r := Nat.one_le_two_pow
    split
    · have : c ≤ 2 ^ (r + 1) * c := Nat.le_mul_of_pos_left _ (by omega)
      omega
    · refine Nat.le_trans (growBy_le n r _) ?_
      have h3 : 2 ^ r * (c + (c + 768) / 4) ≤ 2 ^ r * (2 * c + 192) := Nat.mul_le_mul_left _ (by omega)
      have h4 : 2 ^ r * (2 * c + 192) = 2 ^ (r + 1) * c + 192 * 2 ^ r := by rw [h2, Nat.mul_add, ← Nat.mul_assoc, Nat.mul_comm (2 ^ r) 2, Nat.mul_comm (2 ^ r) 192]
      omega

theorem nextcap_le {need cap : Nat} (h : cap < need) : Builtin.nextslicecap need cap ≤ 16 * need + 16000 := by
  unfold Builtin.nextslicecap
  split
  · omega
  · split
    · omega
    · have := growBy_le need 4 cap
      omega

theorem run_cap_choice (need cap : Nat) (el : TypeId) (w : World) : ∃ c, need ≤ c ∧ (choose (.appendCap need cap el)).run P w = .ok c { w with drawn := w.drawn + 1 } := by
  rw [run_choose]
  refine ⟨_, ?_, by simp [Question.forced]; rfl⟩
  simp [Question.cut]

/-- 'append' where there is no room. -/
theorem run_append_new {t t' el el' : TypeId} {by_ sz : Nat} (hu : P.underlying t = some (.slice el)) (hu' : P.underlying t' = some (.slice el')) (hs : sizeT P el = some sz) (hb : bytesT P el = some by_) {z : Value} (hz : (P.info? el).bind (·.zero) = some z) (hzs : z.cells.size = sz)
    {base : Option Addr} {len cap n : Nat} {X : Value} {olds news : Array Value} (w : World) (hX : (Builtin.lenOf X).run P w = .ok n w) (hlt : cap < len + n) (hbig : (len + n) * (by_ + 1) ≤ 68719476736) (hby : by_ ≤ 1073741824)
    (ho : ∀ d, (Builtin.firstCells sz len (.slice base len cap)).run P { w with drawn := d } = .ok olds { w with drawn := d }) (hn : ∀ d, (Builtin.firstCells sz n X).run P { w with drawn := d } = .ok news { w with drawn := d }) (ty : TypeId) :
    ∃ (cap' : Nat) (rest : Array Value), (len + n ≤ cap' ∧ rest.size = (cap' - (len + n)) * sz) ∧ (Builtin.append_ #[t, t'] ty #[.slice base len cap, X]).run P w = .ok (.slice (some ⟨w.heap.size, 0, none⟩) (len + n) cap') (World.alloc { w with drawn := w.drawn + 1 } (.cells (olds ++ news ++ rest) el)) := by
  obtain ⟨i, hi, hsz⟩ := sizeT_info hs
  obtain ⟨cap', hc1, hc2⟩ := run_cap_choice (P := P) (len + n) cap el w
  have hbyt : i.bytes = by_ := by simpa [bytesT, hi] using hb
  have hzero : (zeroValue el).run P { w with drawn := w.drawn + 1 } = .ok z { w with drawn := w.drawn + 1 } := by
    simp only [hi, Option.bind_some] at hz
    simp [zeroValue, typeInfo, hi, hz]
  refine ⟨cap', Builtin.zeroCells z.cells (cap' - (len + n)), ⟨hc1, by rw [← hzs]; simp [Builtin.zeroCells]⟩, ?_⟩
  have e1 : ¬ (len + n ≤ cap) := by omega
  have hsmall : len + n ≤ 68719476736 := Nat.le_trans (Nat.le_mul_of_pos_right _ (by omega)) hbig
  have e2 : ¬ (((len + n : Nat) : Int) > IntKind.i64.max) := by simp [IntKind.max, IntKind.signed, IntKind.bits]; omega
  have e3 : ¬ (Builtin.nextslicecap (len + n) cap * by_ > 2 ^ 48) := by
    have h1 := nextcap_le hlt
    have h2 : Builtin.nextslicecap (len + n) cap * by_ ≤ (16 * (len + n) + 16000) * by_ := Nat.mul_le_mul_right _ h1
    have h3 : (len + n) * by_ ≤ 68719476736 := Nat.le_trans (Nat.mul_le_mul_left _ (by omega)) hbig
    have h5 : (16 * (len + n) + 16000) * by_ = 16 * ((len + n) * by_) + 16000 * by_ := by rw [Nat.add_mul, Nat.mul_assoc]
    have h6 : (2 : Nat) ^ 48 = 281474976710656 := rfl
    omega
  have e4 : ¬ (((Builtin.nextslicecap (len + n) cap : Nat) : Int) * (by_ : Int) > 2 ^ 48) := by
    intro hh
    apply e3
    have h6 : (2 : Nat) ^ 48 = 281474976710656 := rfl
    have h7 : (2 : Int) ^ 48 = 281474976710656 := rfl
    rw [h7] at hh
    have : ((Builtin.nextslicecap (len + n) cap * by_ : Nat) : Int) = (Builtin.nextslicecap (len + n) cap : Int) * (by_ : Int) := Int.natCast_mul _ _
    omega
  have hos := ho (w.drawn + 1)
  have hns := hn (w.drawn + 1)
  have hsz' : ∀ w, (sizeOf el).run P w = .ok sz w := fun w => run_size hs w
  unfold Builtin.append_
  simp only [List.getElem?_toArray, List.getElem?_cons_zero, List.getElem?_cons_succ, Sem.run_bind, run_und hu, run_und hu', Result.andThen_ok, hsz', Sem.run_pure, hX]
  simp only [Bool.false_eq_true, if_false, Sem.run_bind, hX, Result.andThen_ok, Bool.not_false, if_true, Sem.run_ite, e1, typeInfo, run_program, hi, Sem.run_pure, e2, false_and, hbyt, e3, hc2, run_askRoom, hos, hns]
  have hzero' : (zeroValue el).run P { w with drawn := w.drawn + 1 } = .ok z { w with drawn := w.drawn + 1 } := hzero
  rw [hzero']
  simp only [Result.andThen_ok, newRow, Sem.run_bind, run_newObj, Sem.run_pure]
  rfl

/-- 'append' where there is room. -/
theorem run_append_fit {t t' el el' : TypeId} {sz : Nat} (hu : P.underlying t = some (.slice el)) (hu' : P.underlying t' = some (.slice el')) (hs : sizeT P el = some sz)
    {base : Option Addr} {len cap n : Nat} {X : Value} {news : Array Value} {w w' : World} (hX : (Builtin.lenOf X).run P w = .ok n w) (hle : len + n ≤ cap) (hn : (Builtin.firstCells sz n X).run P w = .ok news w)
    (hst : ∀ a, base = some a → (storeCells (a.add (len * sz)) news.toList).run P w = .ok () w') (hno : base = none → w' = w) (ty : TypeId) :
    (Builtin.append_ #[t, t'] ty #[.slice base len cap, X]).run P w = .ok (.slice base (len + n) cap) w' := by
  have hsz' : ∀ w, (sizeOf el).run P w = .ok sz w := fun w => run_size hs w
  unfold Builtin.append_
  simp only [List.getElem?_toArray, List.getElem?_cons_zero, List.getElem?_cons_succ, Sem.run_bind, run_und hu, run_und hu', Result.andThen_ok, hsz', Sem.run_pure]
  simp only [Bool.false_eq_true, if_false, Sem.run_bind, hX, Result.andThen_ok, Bool.not_false, if_true, Sem.run_ite, hle, hn]
  cases base with
  | none => rw [hno rfl]; rfl
  | some a => simp only [Sem.run_bind, hst a rfl, Result.andThen_ok, Sem.run_pure]

/-- A block that is not named any more. -/
theorem step_drop {μ' : Mu} {A' : Nat → Prop} {w' : World} {old id nx : Nat} {b : Blk} (s : Step μ A h w μ' A' { m := h.m.set id b, nx := nx, lo := h.lo } w') (ho : A old) (hid : ¬ A id) (hlo : h.lo ≤ old) :
    Step μ A h w μ' A' { m := (h.m.delF old).set id b, nx := nx, lo := h.lo } w' := by
  have hne : id ≠ old := fun e => hid (e ▸ ho)
  have hget : ∀ i, ((h.m.delF old).set id b).get i = if i = id then some b else if i = old then none else h.m.get i := fun i => by rw [T.get_set, T.get_delF]
  have hget' : ∀ i, (h.m.set id b).get i = if i = id then some b else h.m.get i := fun i => T.get_set _ _ _ _
  have sub : ∀ i k, ((h.m.delF old).set id b).get i = some k → (h.m.set id b).get i = some k := fun i k hk => by
    rw [hget] at hk
    rw [hget']
    split at hk
    · rename_i e; rw [if_pos e]; exact hk
    · rename_i e
      rw [if_neg e]
      split at hk
      · cases hk
      · exact hk
  refine ⟨⟨fun i k hk => s.hr.dom i k (sub i k hk), fun i k hk => s.hr.cells i k (sub i k hk), fun i k hk => s.hr.free i k (sub i k hk), fun i k hk => s.hr.grow i k (sub i k hk), fun i k j k' h1 h2 => s.hr.apart i k j k' (sub i k h1) (sub j k' h2)⟩,
    s.sub, s.agree, s.ext, fun p o hf => ?_, rfl, fun i hi => ?_⟩
  · obtain ⟨i, k, hk, q⟩ := hf
    exact s.foot p o ⟨i, k, sub i k hk, q⟩
  · have := s.keep i hi
    simp only [hget'] at this
    simp only [hget]
    rw [if_neg (show ¬ i = old by omega)]
    exact this

theorem upd_self (μ : Mu) (id : Nat) (p : Place) : upd μ id p id = p := by simp [upd]

theorem fin_le {sz cap' k : Nat} {xs rest : Array Value} (h1 : xs.size = k * sz) (h2 : rest.size = (cap' - k) * sz) (h3 : k ≤ cap') : cap' * sz ≤ xs.size + rest.size := by
  rw [h1, h2, ← Nat.add_mul]
  exact Nat.mul_le_mul_right _ (by omega)

/-- What 'append' and 'copy' come to: a step, and the value. -/
def Did (P : Program) (μ : Mu) (A : Nat → Prop) (h : H) (w : World) (id : Nat) (v : V) (h' : H) (s : Sem Value) : Prop :=
  ∃ z w' μ' A', s.run P w = .ok z w' ∧ VR μ' A' v z ∧ Step μ A h w μ' A' h' w' ∧ ∀ i, A' i → A i ∨ i = id

theorem setnx (h : H) (m : T Blk) : ({ h with m := m } : H) = { m := m, nx := h.nx, lo := h.lo } := rfl

theorem lenS_ok {x : V} {n : Nat} (hn : lenS x = some n) {X : Value} (hx : VR μ A x X) (w : World) : (Builtin.lenOf X).run P w = .ok n w := by
  unfold lenS at hn
  split at hn
  · rename_i a m cp
    simp only [Option.some.injEq] at hn
    subst hn
    simp only [VR] at hx
    cases a with
    | none => simp only [SR] at hx; obtain ⟨rfl, _, rfl⟩ := hx; rfl
    | some a => obtain ⟨_, ad, cc, _, rfl, _⟩ := SR_sl hx; rfl
  · cases hn

theorem loadCells_same {a : Addr} {n : Nat} {d d' : Nat} {xs ys : Array Value} {w1 w2 : World} (h1 : (loadCells a n).run P { w with drawn := d } = .ok xs w1) (h2 : (loadCells a n).run P { w with drawn := d' } = .ok ys w2) : ys = xs := by
  have key : ∀ (n i : Nat) (acc xs ys : Array Value) (w1 w2 : World), (loadCellsFrom a i n acc).run P { w with drawn := d } = .ok xs w1 → (loadCellsFrom a i n acc).run P { w with drawn := d' } = .ok ys w2 → ys = xs := by
    intro n
    induction n with
    | zero =>
      intro i acc xs ys w1 w2 h1 h2
      simp only [loadCellsFrom, Sem.run_pure, Result.ok.injEq] at h1 h2
      rw [← h1.1, ← h2.1]
    | succ n ih =>
      intro i acc xs ys w1 w2 h1 h2
      simp only [loadCellsFrom, Sem.run_bind, run_load] at h1 h2
      have e1 : World.cell? { w with drawn := d } (a.add i) = w.cell? (a.add i) := rfl
      have e2 : World.cell? { w with drawn := d' } (a.add i) = w.cell? (a.add i) := rfl
      rw [e1] at h1
      rw [e2] at h2
      cases hc : w.cell? (a.add i) with
      | some x =>
        simp only [hc, Result.andThen_ok] at h1 h2
        exact ih _ _ _ _ _ _ h1 h2
      | none =>
        simp only [hc] at h1 h2
        have e3 : World.farLoad P { w with drawn := d } (a.add i) (Mode.plain == .atomic) = World.farLoad P { w with drawn := d' } (a.add i) (Mode.plain == .atomic) := rfl
        rw [e3] at h1
        cases hf : World.farLoad P { w with drawn := d' } (a.add i) (Mode.plain == .atomic) with
        | ok q => simp only [hf, Result.andThen_ok] at h1 h2; exact ih _ _ _ _ _ _ h1 h2
        | error q => simp only [hf, Result.andThen_halt, reduceCtorEq] at h1
  exact key n 0 #[] xs ys w1 w2 h1 h2

theorem firstCells_same {sz n : Nat} {X : Value} {d : Nat} {xs ys : Array Value} {w1 w2 : World} (h1 : (Builtin.firstCells sz n X).run P w = .ok xs w1) (h2 : (Builtin.firstCells sz n X).run P { w with drawn := d } = .ok ys w2) : ys = xs := by
  unfold Builtin.firstCells at h1 h2
  split at h1
  · exact loadCells_same (d := w.drawn) h1 h2
  · simp only [Sem.run_pure, Result.ok.injEq] at h1 h2; rw [← h1.1, ← h2.1]
  · simp only [Sem.run_pure, Result.ok.injEq] at h1 h2; rw [← h1.1, ← h2.1]
  · simp only [run_stuck, reduceCtorEq] at h1

set_option maxHeartbeats 2000000 in
theorem appendC_ok (hr : HR μ A h w) {id : Nat} (hid : ¬ A id) (hlo : h.lo ≤ id) {t t' : TypeId} {s x v : V} {c : Bool} {h' : H} (ha : appendC P h id t t' s x = some (c, v, h')) (hc : c = true) {S' X : Value} (hs : VR μ A s S') (hx : VR μ A x X) (ty : TypeId) :
    Did P μ A h w id v h' (Builtin.append_ #[t, t'] ty #[S', X]) := by
  subst hc
  unfold appendC at ha
  try simp only [undX_eq, szX_eq, agX_eq, zvX_eq, knX_eq, gdX_eq, byX_eq, zlX_eq, ikX_eq] at ha
  split at ha
  rotate_left
  · cases ha
  rename_i el el' hu hu'
  split at ha
  rotate_left
  · cases ha
  rename_i sz by_ n z0 hsz hby hn hz0
  obtain ⟨z, hz, hz1⟩ : ∃ z, ((P.info? el).bind fun x => x.zero) = some z ∧ z.cells.size = z0 := by
    exact Option.map_eq_some_iff.1 hz0
  subst hz1
  split at ha
  rotate_left
  · cases ha
  rename_i b xc hcont
  simp only [Bool.cond_eq_ite, Bool.and_eq_true, beq_iff, blt_iff, ble_iff] at ha
  split at ha
  rotate_left
  · cases ha
  rename_i hcc
  obtain ⟨hsz0, hby0, hzs⟩ := hcc
  have hr' : ∀ d, HR μ A h { w with drawn := d } := fun d => hr.drew d
  split at ha
  · -- nil
    simp only [VR, SR] at hs
    obtain ⟨_, _, rfl⟩ := hs
    split at ha
    · simp only [Option.some.injEq, Prod.mk.injEq, Bool.and_eq_true, beq_iff] at ha
      obtain ⟨⟨rfl, hxs⟩, rfl, rfl⟩ := ha
      obtain ⟨xs, f1, f2, f3⟩ := contC_ok (P := P) hr hcont hn hxs hx
      exact ⟨_, w, μ, A, run_append_fit hu hu' hsz f3 (Nat.le_refl 0) f1 (fun a h => (by cases h)) (fun _ => rfl) ty, by simp [VR, SR], Step.refl hr, fun i hi => .inl hi⟩
    · rename_i m
      simp only [Option.some.injEq, Prod.mk.injEq, Bool.and_eq_true, ble_iff, beq_iff] at ha
      obtain ⟨⟨rfl, hxs, hbig⟩, rfl, rfl⟩ := ha
      have hall : ∀ d, ∃ xs : Array Value, (Builtin.firstCells sz (m + 1) X).run P { w with drawn := d } = .ok xs { w with drawn := d } ∧ CR μ A xc xs := fun d => by
        obtain ⟨xs, f1, f2, f3⟩ := contC_ok (P := P) (hr' d) hcont hn hxs hx
        exact ⟨xs, f1, f2⟩
      obtain ⟨xs, f1, f2, f3⟩ := contC_ok (P := P) hr hcont hn hxs hx
      have same : ∀ d, (Builtin.firstCells sz (m + 1) X).run P { w with drawn := d } = .ok xs { w with drawn := d } := fun d => by
        obtain ⟨ys, g1, g2⟩ := hall d
        have : ys = xs := firstCells_same f1 g1
        rw [← this]; exact g1
      obtain ⟨cap', rest, ⟨e1, e0⟩, e2⟩ := run_append_new hu hu' hsz hby hz hzs (base := none) (len := 0) (cap := 0) (olds := #[]) (news := xs) w f3 (by omega) (by simpa using hbig) hby0 (fun d => by simp [Builtin.firstCells]) same ty
      have st := step_alloc (hr' (w.drawn + 1)) hid hlo (c := joinC [] xc) (cells := #[] ++ xs) (rest := rest) (CR_app (a := []) ⟨rfl, fun j s hj => by simp [cat] at hj⟩ f2 (joinC_spec [] xc).1 (joinC_spec [] xc).2) el true (cap' * sz) (fin_le (k := 0 + (m + 1)) (by simp [f2.1, hxs]) e0 e1) h.nx
      refine ⟨_, _, _, _, e2, ?_, (Step.drew (Step.refl hr) (w.drawn + 1)).trans st, fun i hi => hi⟩
      simp only [VR]
      have := new_slg (μ := μ) (A := A) id w.heap.size (m + 1) cap' sz (by omega) 0 (cap' * sz) (Nat.le_refl _)
      rw [Nat.zero_add]
      exact this
  · -- a known capacity
    rename_i a len cap
    split at ha
    rotate_left
    · cases ha
    rename_i b' sc hscont
    have hs0 := hs
    simp only [VR] at hs
    obtain ⟨hida, ad, cc, hl, rfl, hcc, hk, _⟩ := SR_sl hs
    obtain rfl := hk cap rfl
    split at ha
    · simp only [Option.some.injEq, Prod.mk.injEq, Bool.and_eq_true, beq_iff] at ha
      obtain ⟨⟨rfl, rfl, hxs, hscs⟩, rfl, rfl⟩ := ha
      obtain ⟨xs, f1, f2, f3⟩ := contC_ok (P := P) hr hcont hn hxs hx
      have hx0 : xs = #[] := by rw [← Array.size_eq_zero_iff, f2.1, hxs]; simp
      refine ⟨_, w, μ, A, run_append_fit hu hu' hsz (w' := w) f3 (by omega) f1 (fun a _ => by rw [hx0]; rfl) (fun h => (by cases h)) ty, ?_, Step.refl hr, fun i hi => .inl hi⟩
      simpa only [Nat.add_zero] using hs0
    · rename_i n m
      split at ha
      · -- it grows
        rename_i hfull
        simp only [Option.some.injEq, Prod.mk.injEq, Bool.and_eq_true, ble_iff, beq_iff] at ha
        obtain ⟨⟨rfl, rfl, hxs, hscs, hbig⟩, rfl, rfl⟩ := ha
        have hlt : cc < len + (m + 1) := by
          rcases Nat.lt_or_ge cc (len + (m + 1)) with q | q
          · exact q
          · rw [ble_iff.2 q] at hfull; cases hfull
        obtain ⟨xs, f1, f2, f3⟩ := contC_ok (P := P) hr hcont hn hxs hx
        obtain ⟨os, g1, g2, g3⟩ := contC_ok (P := P) hr hscont (n := len) rfl hscs hs0
        have samex : ∀ d, (Builtin.firstCells sz (m + 1) X).run P { w with drawn := d } = .ok xs { w with drawn := d } := fun d => by
          obtain ⟨ys, k1, k2, k3⟩ := contC_ok (P := P) (hr' d) hcont hn hxs hx
          rw [← firstCells_same f1 k1]; exact k1
        have sameo : ∀ d, (Builtin.firstCells sz len (.slice (some ad) len cc)).run P { w with drawn := d } = .ok os { w with drawn := d } := fun d => by
          obtain ⟨ys, k1, k2, k3⟩ := contC_ok (P := P) (hr' d) hscont (n := len) rfl hscs hs0
          rw [← firstCells_same g1 k1]; exact k1
        obtain ⟨cap', rest, ⟨e1, e0⟩, e2⟩ := run_append_new hu hu' hsz hby hz hzs (base := some ad) (len := len) (cap := cc) (olds := os) (news := xs) w f3 hlt hbig hby0 sameo samex ty
        have st := step_alloc (hr' (w.drawn + 1)) hid hlo (c := joinC sc xc) (cells := os ++ xs) (rest := rest) (CR_app g2 f2 (joinC_spec sc xc).1 (joinC_spec sc xc).2) el true (cap' * sz) (fin_le (by simp [f2.1, g2.1, hxs, hscs, Nat.add_mul]) e0 e1) h.nx
        refine ⟨_, _, _, _, e2, ?_, (Step.drew (Step.refl hr) (w.drawn + 1)).trans st, fun i hi => hi⟩
        simp only [VR]
        exact new_slg (μ := μ) (A := A) id w.heap.size _ cap' sz e1 0 (cap' * sz) (Nat.le_refl _)
      · -- there is room
        rename_i hroom
        have hle : len + (m + 1) ≤ cc := ble_iff.1 hroom
        split at ha
        rotate_left
        · cases ha
        rename_i blk a' hblk ha'
        simp only [Bool.or_eq_true] at ha
        split at ha
        · cases ha
        rename_i hno
        have hro : blk.ro = false := by cases hq : blk.ro <;> simp_all
        have hloa : h.lo ≤ a.id := by
          rcases Nat.lt_or_ge a.id h.lo with q | q
          · exact absurd (.inr (blt_iff.2 q)) hno
          · exact q
        split at ha
        rotate_left
        · cases ha
        rename_i b'' c' hput
        simp only [Option.some.injEq, Prod.mk.injEq, Bool.and_eq_true, beq_iff] at ha
        obtain ⟨⟨rfl, rfl, rfl, hxs, hscs⟩, rfl, rfl⟩ := ha
        obtain ⟨p1, p2, p3⟩ := putC_spec hput
        obtain ⟨xs, f1, f2, f3⟩ := contC_ok (P := P) hr hcont hn hxs hx
        obtain ⟨q1, q2, q3⟩ := addI_ok (μ := μ) ha'
        have had : ad = a.conc μ := hcc.resolve_left (by omega)
        have hadd : ad.add (len * sz) = ⟨(μ a.id).b, (μ a.id).o + a'.real, none⟩ := by rw [had, ← q3, AA.conc, q1]
        have hlx : xs.toList.length = csize xc := by rw [Array.length_toList, f2.1]
        obtain ⟨w', g1, g2⟩ := run_storeAll (P := P) xs.toList (μ a.id).b ((μ a.id).o + a'.real) 0 w (fun j hj => by
            obtain ⟨s0, hs0⟩ := cat_some blk.c (a'.real + j) (by omega)
            obtain ⟨z0, z1, _⟩ := hr.cells a.id blk hblk _ s0 hs0
            exact ⟨z0, by rw [Nat.zero_add, Nat.add_assoc]; exact z1⟩) (fun j hj => by
            rw [Nat.zero_add, Nat.add_assoc]
            exact hr.free a.id blk hblk hro _ (by omega)) f2.one
        have hne : xs.toList ≠ [] := by
          intro e
          have : csize xc = 0 := by rw [← hlx, e]; rfl
          rw [hxs] at this
          rcases Nat.mul_eq_zero.1 this with q | q <;> omega
        refine ⟨_, w', μ, A, run_append_fit hu hu' hsz (w' := w') f3 hle f1 (fun a0 h0 => by cases h0; rw [hadd]; exact g1) (fun h => (by cases h)) ty, ?_, step_write hr hblk hro hloa (r := a'.real) (x := xc) hne (by simpa using f2) p1 p2 p3 (by simpa using g2), fun i hi => .inl hi⟩
        simp only [VR, SR]
        exact ⟨hida, by omega, ad, rfl, .inr had⟩
  · -- a row of the call's own
    rename_i a len gs
    split at ha
    rotate_left
    · cases ha
    rename_i blk b' sc hblk hscont
    try simp only [Bool.cond_eq_ite, Bool.and_eq_true, beq_iff, Bool.not_eq_true'] at ha
    split at ha
    rotate_left
    · cases ha
    rename_i hq
    obtain ⟨hgr, rfl, hloa⟩ := hq
    have hloa' : h.lo ≤ a.id := by
      rcases Nat.lt_or_ge a.id h.lo with q | q
      · rw [blt_iff.2 q] at hloa; cases hloa
      · exact q
    simp only [Option.some.injEq, Prod.mk.injEq, Bool.and_eq_true, ble_iff, beq_iff] at ha
    obtain ⟨⟨rfl, rfl, hxs, hscs, hbig⟩, rfl, rfl⟩ := ha
    have hs0 := hs
    simp only [VR] at hs
    obtain ⟨hida, ad, cc, hl, rfl, hcc, _, hgg⟩ := SR_sl hs
    obtain ⟨xs, f1, f2, f3⟩ := contC_ok (P := P) hr hcont hn hxs hx
    obtain ⟨os, g1, g2, g3⟩ := contC_ok (P := P) hr hscont (n := len) rfl hscs hs0
    have hjoin := joinC_spec sc xc
    by_cases hfit : len + n ≤ cc
    · -- it lies where it lay
      obtain ⟨hro, q0, el0, hq0, hf0⟩ := hr.grow a.id blk hblk hgr
      by_cases hcc0 : cc = 0
      · -- of no capacity: nothing is written
        have hl0 : len = 0 := by omega
        have hn0 : n = 0 := by omega
        subst hcc0 hl0 hn0
        have hx0 : xs = #[] := by rw [← Array.size_eq_zero_iff, f2.1, hxs]; simp
        have hz : csize (joinC sc xc) = 0 := by rw [hjoin.1, hscs, hxs]; simp
        refine ⟨_, w, upd μ id ⟨(μ a.id).b, (μ a.id).o + 0, (μ a.id).fin - 0⟩, _, run_append_fit hu hu' hsz (w' := w) f3 hfit f1 (fun a _ => by rw [hx0]; rfl) (fun h => (by cases h)) ty, ?_, step_regrow hr hblk hgr hloa' hid hlo (r := 0) (L := 0) (vs := []) (Nat.zero_le _) ⟨rfl, rfl, rfl, rfl, fun _ _ => rfl, fun c el fz h => ⟨c, h, rfl, fun j => by rw [if_neg (by simp; omega)]⟩⟩ (fun j s hj => by have := cat_lt _ _ _ hj; omega) h.nx, fun i hi => hi⟩
        simp only [VR, SR]
        exact ⟨.inr trivial, ad, 0, Nat.le_refl _, rfl, .inl rfl⟩
      · have had : ad = a.conc μ := hcc.resolve_left hcc0
        have hfin : a.real + cc * gs ≤ (μ a.id).fin := (hgg gs rfl).resolve_left hcc0
        have hmul : (len + n) * gs ≤ cc * gs := Nat.mul_le_mul_right _ hfit
        rw [Nat.add_mul] at hmul
        have hadd : ad.add (len * gs) = ⟨(μ a.id).b, (μ a.id).o + a.real + len * gs, none⟩ := by rw [had, AA.conc, add_at]
        have hlx : xs.toList.length = n * gs := by rw [Array.length_toList, f2.1, hxs]
        have hin : ∀ j, j < n * gs → ∃ x, w.cell? ⟨(μ a.id).b, (μ a.id).o + a.real + len * gs + (0 + j), none⟩ = some x := fun j hj => by
          rw [cell_of hq0]
          exact ⟨_, Array.getElem?_eq_getElem (by omega)⟩
        obtain ⟨w', k1, k2⟩ := run_storeAll (P := P) xs.toList (μ a.id).b ((μ a.id).o + a.real + len * gs) 0 w (fun j hj => hin j (by omega)) (fun j hj => by rw [frozen_of hq0]; simp) f2.one
        have hrow : rowsC blk.c a len gs = some (true, sc) := by simpa [contC, hblk] using hscont
        obtain ⟨r1, r2⟩ := rowsC_spec hrow
        refine ⟨_, w', upd μ id ⟨(μ a.id).b, (μ a.id).o + a.real, (μ a.id).fin - a.real⟩, _, run_append_fit hu hu' hsz (w' := w') f3 hfit f1 (fun a0 h0 => by cases h0; rw [hadd]; exact k1) (fun h => (by cases h)) ty, ?_, step_regrow hr hblk hgr hloa' hid hlo (r := a.real) (L := len * gs) (vs := xs.toList) (by omega) (by simpa using k2) (fun j s hj => ?_) h.nx, fun i hi => hi⟩
        · simp only [VR, SR]
          exact ⟨.inr trivial, ad, cc, hfit, rfl, .inr ⟨by rw [had]; simp [AA.conc, AA.real, upd], by rw [upd_self]; show 0 + cc * gs ≤ (μ a.id).fin - a.real; omega⟩⟩
        · rw [hjoin.2 j] at hj
          split at hj
          · rename_i hjl
            rw [hscs] at hjl
            rw [r2 j hjl] at hj
            obtain ⟨x0, x1, x2⟩ := hr.cells a.id blk hblk _ s hj
            refine ⟨x0, ?_, x2⟩
            rw [← Nat.add_assoc] at x1
            rw [k2.cell x1, if_neg (by omega)]
          · rename_i hjl
            rw [hscs] at hjl hj
            obtain ⟨y, y1, y2⟩ := f2.2 _ s hj
            have hlt := lt_of_some y1
            have hlt' : j - len * gs < n * gs := by rw [f2.1, hxs] at hlt; exact hlt
            obtain ⟨x0, x1⟩ := hin _ hlt'
            have e : (μ a.id).o + a.real + len * gs + (0 + (j - len * gs)) = (μ a.id).o + a.real + j := by omega
            rw [e] at x1
            refine ⟨y, ?_, y2⟩
            rw [k2.cell x1, if_pos (by omega), ← y1, ← Array.getElem?_toList]
            congr 1
            omega
    · -- it grows
      have hlt : cc < len + n := by omega
      have samex : ∀ d, (Builtin.firstCells gs n X).run P { w with drawn := d } = .ok xs { w with drawn := d } := fun d => by
        obtain ⟨ys, k1, k2, k3⟩ := contC_ok (P := P) (hr' d) hcont hn hxs hx
        rw [← firstCells_same f1 k1]; exact k1
      have sameo : ∀ d, (Builtin.firstCells gs len (.slice (some ad) len cc)).run P { w with drawn := d } = .ok os { w with drawn := d } := fun d => by
        obtain ⟨ys, k1, k2, k3⟩ := contC_ok (P := P) (hr' d) hscont (n := len) rfl hscs hs0
        rw [← firstCells_same g1 k1]; exact k1
      obtain ⟨cap', rest, ⟨e1, e0⟩, e2⟩ := run_append_new hu hu' hsz hby hz hzs (base := some ad) (len := len) (cap := cc) (olds := os) (news := xs) w f3 hlt hbig hby0 sameo samex ty
      have st := step_alloc (hr' (w.drawn + 1)) hid hlo (c := joinC sc xc) (cells := os ++ xs) (rest := rest) (CR_app g2 f2 hjoin.1 hjoin.2) el true (cap' * gs) (fin_le (by simp [f2.1, g2.1, hxs, hscs, Nat.add_mul]) e0 e1) h.nx
      have st2 := (Step.drew (Step.refl hr) (w.drawn + 1)).trans st
      refine ⟨_, _, _, _, e2, ?_, step_drop st2 (hr.dom _ _ hblk) hid hloa', fun i hi => hi⟩
      simp only [VR]
      exact new_slg (μ := μ) (A := A) id w.heap.size _ cap' gs e1 0 (cap' * gs) (Nat.le_refl _)
  · cases ha

/-- So many cells of a slice, as they are read. -/
theorem first_ok (hr : HR μ A h w) {a : AA} {b : Blk} (hb : h.m.get a.id = some b) {sz n : Nat} {xc : List Seg} (hc : rowsC b.c a n sz = some (true, xc)) {ad : Addr} {l cc : Nat} (hn : n ≤ cc) (hcc : cc = 0 ∨ ad = a.conc μ) :
    ∃ xs : Array Value, (Builtin.firstCells sz n (.slice (some ad) l cc)).run P w = .ok xs w ∧ CR μ A xc xs := by
  obtain ⟨r1, r2⟩ := rowsC_spec hc
  obtain ⟨cells, k1, k2, k3⟩ := choose_cells (μ := μ) (A := A) r1 (f := fun j => w.cell? ⟨(μ a.id).b, (μ a.id).o + a.real + j, none⟩) (fun j s hs => by
    have hj := cat_lt xc j s hs
    rw [r2 j (by omega)] at hs
    obtain ⟨y, y1, y2⟩ := hr.cells a.id b hb _ s hs
    exact ⟨y, by rw [← Nat.add_assoc] at y1; exact y1, y2⟩)
  refine ⟨cells, ?_, k3⟩
  by_cases h0 : n * sz = 0
  · have : cells = #[] := by rw [← Array.size_eq_zero_iff]; omega
    rw [this]
    simp only [Builtin.firstCells, h0]
    rfl
  · have hm : n ≠ 0 := fun e => h0 (by rw [e]; simp)
    have : ad = a.conc μ := hcc.resolve_left (by omega)
    subst this
    have h1 := run_loadCells_list (P := P) w (a.conc μ) cells.toList (fun j v hv => by
      rw [AA.conc, add_at]
      have hj : j < n * sz := by
        obtain ⟨h, _⟩ := List.getElem?_eq_some_iff.1 hv
        simpa [k1] using h
      rw [k2 j hj, Array.getD_eq_getD_getElem?, ← Array.getElem?_toList, hv]
      rfl)
    simp only [Array.length_toList, k1, Array.toArray_toList] at h1
    simp only [Builtin.firstCells]
    exact h1

/-- Cells put into a block. -/
theorem put_step (hr : HR μ A h w) {id : Nat} {b : Blk} (hb : h.m.get id = some b) (hro : b.ro = false) (hlo : h.lo ≤ id) {r : Nat} {x c' : List Seg} {xs : Array Value} (hx : CR μ A x xs)
    (h2 : r + csize x ≤ csize b.c) (h3 : csize c' = csize b.c) (h4 : ∀ j, cat c' j = if r ≤ j ∧ j < r + csize x then cat x (j - r) else cat b.c j) :
    ∃ w', (storeCells ⟨(μ id).b, (μ id).o + r, none⟩ xs.toList).run P w = .ok () w' ∧ Step μ A h w μ A { h with m := h.m.set id { b with c := c' } } w' := by
  by_cases hz : xs.toList = []
  · have hz0 : csize x = 0 := by rw [← hx.1]; simpa using congrArg List.length hz
    exact ⟨w, by rw [hz]; rfl, step_same hr hb hro hlo h3 (fun j => by rw [h4, if_neg (by omega)])⟩
  · obtain ⟨w', g1, g2⟩ := run_storeAll (P := P) xs.toList (μ id).b ((μ id).o + r) 0 w (fun j hj => by
        obtain ⟨s0, hs0⟩ := cat_some b.c (r + j) (by rw [Array.length_toList, hx.1] at hj; omega)
        obtain ⟨z0, z1, _⟩ := hr.cells id b hb _ s0 hs0
        exact ⟨z0, by rw [Nat.zero_add, Nat.add_assoc]; exact z1⟩) (fun j hj => by
        rw [Nat.zero_add, Nat.add_assoc]
        exact hr.free id b hb hro _ (by rw [Array.length_toList, hx.1] at hj; omega)) hx.one
    exact ⟨w', g1, step_write hr hb hro hlo (r := r) (x := x) hz (by simpa using hx) h2 h3 h4 (by simpa using g2)⟩

theorem run_copy {t t' el : TypeId} {sz : Nat} (hu : P.underlying t = some (.slice el)) (hs : sizeT P el = some sz) {base : Option Addr} {len cap n q : Nat} {X : Value} {xs : Array Value} {w w' : World} (hX : (Builtin.lenOf X).run P w = .ok n w)
    (hq : q = Nat.min n len) (hn : (Builtin.firstCells sz q X).run P w = .ok xs w) (hst : ∀ a, base = some a → (storeCells a xs.toList).run P w = .ok () w') (hno : base = none → w' = w) (ty : TypeId) :
    (Builtin.copy_ #[t, t'] ty #[.slice base len cap, X]).run P w = .ok (goInt q) w' := by
  subst hq
  have hsz' : ∀ w, (sizeOf el).run P w = .ok sz w := fun w => run_size hs w
  unfold Builtin.copy_
  simp only [List.getElem?_toArray, List.getElem?_cons_zero, List.getElem?_cons_succ, Sem.run_bind, run_und hu, Result.andThen_ok, hsz', Sem.run_pure, hX, hn]
  cases base with
  | none => rw [hno rfl]; rfl
  | some a => simp only [Sem.run_bind, hst a rfl, Result.andThen_ok, Sem.run_pure]

theorem copyC_ok (hr : HR μ A h w) (id : Nat) {t t' : TypeId} {d x v : V} {c : Bool} {h' : H} (ha : copyC P h t d x = some (c, v, h')) (hc : c = true) {D X : Value} (hd : VR μ A d D) (hx : VR μ A x X) (ty : TypeId) :
    Did P μ A h w id v h' (Builtin.copy_ #[t, t'] ty #[D, X]) := by
  subst hc
  have one : ∀ (q : Nat) (w' : World), Step μ A h w μ A h' w' → v = .sc (.i .i64 q) → (Builtin.copy_ #[t, t'] ty #[D, X]).run P w = .ok (goInt q) w' → Did P μ A h w id v h' (Builtin.copy_ #[t, t'] ty #[D, X]) := fun q w' st hv hrun =>
    ⟨_, w', μ, A, hrun, by rw [hv]; simp only [VR, SR]; rfl, st, fun i hi => .inl hi⟩
  unfold copyC at ha
  try simp only [undX_eq, szX_eq, agX_eq, zvX_eq, knX_eq, gdX_eq, byX_eq, zlX_eq, ikX_eq] at ha
  split at ha
  rotate_left
  · cases ha
  rename_i el hu
  split at ha
  · rename_i sz a len cp n hsz hn
    simp only [VR] at hd
    obtain ⟨hida, ad, cc, hl, rfl, hcc, _⟩ := SR_sl hd
    have hX := lenS_ok (P := P) hn hx w
    split at ha
    · rename_i blk a' l' cp' hblk
      split at ha
      rotate_left
      · cases ha
      rename_i blk' hblk'
      simp only [Bool.cond_eq_ite, Bool.or_eq_true] at ha
      split at ha
      · cases ha
      rename_i hno
      have hro : blk.ro = false := by cases hq : blk.ro <;> simp_all
      have hlo : h.lo ≤ a.id := by
        rcases Nat.lt_or_ge a.id h.lo with q | q
        · exact absurd (.inr (blt_iff.2 q)) hno
        · exact q
      split at ha
      rotate_left
      · cases ha
      rename_i b xc hrow
      simp only [beq_iff] at ha
      split at ha
      rotate_left
      · cases ha
      rename_i hxc
      split at ha
      rotate_left
      · cases ha
      rename_i b' c' hput
      simp only [Option.some.injEq, Prod.mk.injEq, Bool.and_eq_true] at ha
      obtain ⟨⟨rfl, rfl⟩, rfl, rfl⟩ := ha
      obtain ⟨p1, p2, p3⟩ := putC_spec hput
      simp only [VR] at hx
      obtain ⟨hida', ad', cc', hl', rfl, hcc', _⟩ := SR_sl hx
      simp only [lenS, Option.some.injEq] at hn
      subst hn
      have hqn : Nat.min l' len ≤ l' := Nat.min_le_left _ _
      have hql : Nat.min l' len ≤ len := Nat.min_le_right _ _
      obtain ⟨xs, f1, f2⟩ := first_ok (P := P) hr hblk' hrow (l := l') (Nat.le_trans hqn hl') hcc'
      obtain ⟨w', g1, g2⟩ := put_step (P := P) hr hblk hro hlo f2 p1 p2 p3
      by_cases hz : xs.toList = []
      · have hz0 : csize xc = 0 := by rw [← f2.1]; simpa using congrArg List.length hz
        exact one _ w (step_same hr hblk hro hlo p2 (fun j => by rw [p3, if_neg (by omega)])) rfl (run_copy hu hsz (w' := w) hX rfl f1 (fun a _ => by rw [hz]; rfl) (fun h => (by cases h)) ty)
      · have hq0 : Nat.min l' len ≠ 0 := fun e => hz (by
          have : xs.size = 0 := by rw [f2.1, hxc, e]; simp
          rw [Array.size_eq_zero_iff] at this
          rw [this])
        have had : ad = a.conc μ := hcc.resolve_left (by omega)
        exact one _ w' g2 rfl (run_copy hu hsz (w' := w') hX rfl f1 (fun a0 h0 => by cases h0; rw [had]; exact g1) (fun h => (by cases h)) ty)
    · simp only [Option.some.injEq, Prod.mk.injEq] at ha
      obtain ⟨_, rfl, rfl⟩ := ha
      simp only [VR, SR] at hx
      obtain ⟨_, _, rfl⟩ := hx
      simp only [lenS, Option.some.injEq] at hn
      subst hn
      exact one 0 w (Step.refl hr) rfl (run_copy hu hsz (w' := w) (xs := #[]) hX (by exact (Nat.zero_min len).symm) (by simp [Builtin.firstCells]) (fun a _ => rfl) (fun h => (by cases h)) ty)
    · cases ha
  · rename_i sz cp n hsz hn
    simp only [Option.some.injEq, Prod.mk.injEq] at ha
    obtain ⟨_, rfl, rfl⟩ := ha
    have hX := lenS_ok (P := P) hn hx w
    simp only [VR, SR] at hd
    obtain ⟨_, _, rfl⟩ := hd
    have hf : (Builtin.firstCells sz 0 X).run P w = .ok #[] w := by
      unfold lenS at hn
      split at hn
      · rename_i a m c'
        simp only [VR] at hx
        cases a with
        | none => simp only [SR] at hx; obtain ⟨_, _, rfl⟩ := hx; simp [Builtin.firstCells]
        | some a => obtain ⟨_, ad, cc, _, rfl, _⟩ := SR_sl hx; simp only [Builtin.firstCells, Nat.zero_mul]; rfl
      · cases hn
    exact one 0 w (Step.refl hr) rfl (run_copy hu hsz (w' := w) (xs := #[]) hX (by exact (Nat.min_zero n).symm) hf (fun a h => (by cases h)) (fun _ => rfl) ty)
  · cases ha

theorem memC_ok (hr : HR μ A h w) {id : Nat} (hid : ¬ A id) (hlo : h.lo ≤ id) {b : Builtin} {ts : List TypeId} {xs : List V} {v : V} {c : Bool} {h' : H} (ha : memC P h id b ts xs = some (c, v, h')) (hc : c = true) {Xs : List Value} (hx : VRs μ A xs Xs) (ty : TypeId) (cs : Array Bool) :
    ∃ z w' μ' A', (builtin b ts.toArray ty cs Xs.toArray).run P w = .ok (.value z) w' ∧ VR μ' A' v z ∧ Step μ A h w μ' A' h' w' ∧ ∀ i, A' i → A i ∨ i = id := by
  unfold memC at ha
  try simp only [undX_eq, szX_eq, agX_eq, zvX_eq, knX_eq, gdX_eq, byX_eq, zlX_eq, ikX_eq] at ha
  split at ha
  · rename_i t t' s x
    match Xs, hx with
    | [S', X], hx =>
      simp only [VRs] at hx
      obtain ⟨z, w', μ', A', h1, h2⟩ := appendC_ok hr hid hlo ha hc hx.1 hx.2.1 ty
      exact ⟨z, w', μ', A', by simp [builtin, h1], h2⟩
  · rename_i t t' s x
    match Xs, hx with
    | [S', X], hx =>
      simp only [VRs] at hx
      obtain ⟨z, w', μ', A', h1, h2⟩ := copyC_ok (t' := t') hr id ha hc hx.1 hx.2.1 ty
      exact ⟨z, w', μ', A', by simp [builtin, h1], h2⟩
  · cases ha

end
end Go.Proofs.YteionboacdkfjaaDoor.X
