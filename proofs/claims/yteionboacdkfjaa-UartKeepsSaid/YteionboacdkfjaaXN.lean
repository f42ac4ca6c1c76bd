/-
  X, part N: regions whose order is drawn: operations without memory are taken as soon as they may; of the others every order is gone through.
-/
import Derived.Test.YteionboacdkfjaaXM
import Derived.Orders
namespace Go.Proofs.Yteionboacdkfjaa.X

def bit (m i : Nat) : Bool := Nat.beq (Nat.land (Nat.shiftRight m i) 1) 1

def rdyOp (m : Nat) (o : Oper) : Bool := o.after.toList.all fun e => !Region.binds .any e || bit m e.on

/-- What may be taken: numbers with their operations. -/
def rdy (m : Nat) : List Oper → Nat → List (Nat × Oper)
  | [], _ => []
  | o :: r, i => cond (!bit m i && rdyOp m o) ((i, o) :: rdy m r (i + 1)) (rdy m r (i + 1))

def isPure : Op → Bool
  | .move _ | .assign _ | .pick _ _ _ | .nilCheck _ | .binOp _ _ _ _ _ | .unOp _ _ _ | .convert _ _ _ | .makeInterface _ _ | .extract _ _ | .field _ _ _ | .fieldAddr _ _ _ | .indexAddr _ _ _ | .index _ _ _ | .slice _ _ _ _ _ | .build _ _ => true
  | .call ⟨.builtin .len, _, _⟩ | .call ⟨.builtin .cap, _, _⟩ | .call ⟨.builtin .min, _, _⟩ | .call ⟨.builtin .max, _, _⟩ => true
  | _ => false

def apartL (ops : Array Oper) (i : Nat) (oi : Oper) (m : Nat) : List Oper → Nat → Bool
  | [], _ => true
  | o :: r, j => (Nat.beq j i || bit m j || o.after.toList.any (fun e => Region.binds .any e && Nat.beq e.on i) || oi.apart ops o) && apartL ops i oi m r (j + 1)

def firstAdv (ops : Array Oper) (m : Nat) : List (Nat × Oper) → Option (Nat × Oper)
  | [] => none
  | (i, o) :: r => cond (isPure o.op && apartL ops i o m ops.toList 0) (some (i, o)) (firstAdv ops m r)

/-- All of a list; of a list of one, that one. -/
def allL {α : Type} (f : α → Bool) : List α → Bool
  | [] => true
  | [x] => f x
  | x :: y :: r => cond (f x) (allL f (y :: r)) false

theorem allL_spec {α : Type} (f : α → Bool) : ∀ (l : List α), allL f l = true → ∀ x ∈ l, f x = true
  | [], _, x, hx => by cases hx
  | [y], h, x, hx => by
    simp only [List.mem_singleton] at hx
    subst hx
    exact h
  | y :: z :: r, h, x, hx => by
    simp only [allL, Bool.cond_eq_ite] at h
    split at h
    · rename_i hy
      rcases List.mem_cons.1 hx with rfl | hx
      · exact hy
      · exact allL_spec f (z :: r) h x hx
    · cases h

def setBit (m i : Nat) : Nat := Nat.lor m (Nat.shiftLeft 1 i)

def dr (P : Program) (Γ : FuncId → Option CT) (ops : Array Oper) : Nat → Nat → St → (St → Bool) → Bool
  | 0, m, σ, k => match rdy m ops.toList 0 with
    | [] => k σ
    | _ => false
  | n + 1, m, σ, k => match rdy m ops.toList 0 with
    | [] => k σ
    | rs => match firstAdv ops m rs with
      | some (i, o) => guardK ops.toList o σ fun w τ => match w with
        | true => (match pureC P (ev P τ.fr) o.op with
          | some (c, v) => cond c (match putD o.dst v τ with
            | some ρ => dr P Γ ops n (setBit m i) ρ k
            | none => false) false
          | none => false)
        | false => match putD o.dst (.tu []) τ with
          | some ρ => dr P Γ ops n (setBit m i) ρ k
          | none => false
      | none => allL (fun x => guardK ops.toList x.2 σ fun w τ => match w with
        | true => runOp P Γ x.2 τ fun ρ => dr P Γ ops n (setBit m x.1) ρ k
        | false => match putD x.2.dst (.tu []) τ with
          | some ρ => dr P Γ ops n (setBit m x.1) ρ k
          | none => false) rs

def noSel (ops : List Oper) : Bool := ops.all fun o => match o.op with | .select .. => false | _ => true

/-- The runner of such regions. -/
def DR (P : Program) (Γ : FuncId → Option CT) (ops : List Oper) (σ : St) (k : St → Bool) : Bool :=
  cond (noSel ops) (dr P Γ ops.toArray ops.length 0 σ k) false

section
variable {P : Program}

theorem bit_spec (m i : Nat) : bit m i = m.testBit i := by
  unfold bit Nat.testBit
  rw [Bool.eq_iff_iff]
  simp only [beq_iff, bne_iff_ne, ne_eq]
  have h1 : Nat.land (Nat.shiftRight m i) 1 = (m >>> i) &&& 1 := rfl
  rw [h1, Nat.and_one_is_mod, Nat.one_and_eq_mod_two]
  omega

theorem bit_set (m i j : Nat) : bit (setBit m i) j = (bit m j || decide (i = j)) := by
  rw [bit_spec, bit_spec]
  show (m ||| (1 <<< i)).testBit j = _
  rw [Nat.testBit_or]
  congr 1
  rw [Nat.one_shiftLeft, Nat.testBit_two_pow]

/-- The mask stands for the list of what is done. -/
structure Rep (ops : Array Oper) (listed : Array Bool) (m : Nat) : Prop where
  size : listed.size = ops.size
  bits : ∀ i, i < ops.size → listed[i]? = some (bit m i)
  hi : ∀ i, ops.size ≤ i → bit m i = false

theorem Rep.set {ops : Array Oper} {listed : Array Bool} {m i : Nat} (h : Rep ops listed m) (hi : i < ops.size) : Rep ops (listed.setIfInBounds i true) (setBit m i) := by
  refine ⟨by simp [h.size], fun j hj => ?_, fun j hj => ?_⟩
  · rw [bit_set]
    by_cases e : i = j
    · subst e
      rw [Array.getElem?_setIfInBounds_self_of_lt (by rw [h.size]; exact hi)]
      simp
    · rw [Array.getElem?_setIfInBounds_ne e, h.bits j hj]
      simp [e]
  · rw [bit_set, h.hi j hj]
    simp
    omega

theorem Rep.init (ops : Array Oper) : Rep ops (Array.replicate ops.size false) 0 := by
  have hb : ∀ i, bit 0 i = false := fun i => by rw [bit_spec]; simp
  exact ⟨by simp, fun i hi => by rw [hb]; simp [hi], fun i _ => hb i⟩

theorem Rep.getD_true {ops : Array Oper} {listed : Array Bool} {m : Nat} (h : Rep ops listed m) (i : Nat) : listed.getD i true = (bit m i || decide (ops.size ≤ i)) := by
  rw [Array.getD_eq_getD_getElem?]
  by_cases e : i < ops.size
  · rw [h.bits i e]; simp; omega
  · rw [Array.getElem?_eq_none (by rw [h.size]; omega)]; simp; omega
theorem Rep.getD_false {ops : Array Oper} {listed : Array Bool} {m : Nat} (h : Rep ops listed m) (i : Nat) : listed.getD i false = bit m i := by
  rw [Array.getD_eq_getD_getElem?]
  by_cases e : i < ops.size
  · rw [h.bits i e]; simp
  · rw [Array.getElem?_eq_none (by rw [h.size]; omega), h.hi i (by omega)]; rfl

theorem rdy_mem (m : Nat) : ∀ (l : List Oper) (s : Nat) (x : Nat × Oper), x ∈ rdy m l s ↔ s ≤ x.1 ∧ l[x.1 - s]? = some x.2 ∧ bit m x.1 = false ∧ rdyOp m x.2 = true
  | [], s, x => by simp [rdy]
  | o :: r, s, x => by
    have ih := rdy_mem m r (s + 1) x
    simp only [rdy, Bool.cond_eq_ite, Bool.and_eq_true, Bool.not_eq_true']
    constructor
    · intro h
      have tail : x ∈ rdy m r (s + 1) → s ≤ x.1 ∧ (o :: r)[x.1 - s]? = some x.2 ∧ bit m x.1 = false ∧ rdyOp m x.2 = true := fun h => by
        obtain ⟨h1, h2, h3⟩ := ih.1 h
        refine ⟨by omega, ?_, h3⟩
        rw [show x.1 - s = (x.1 - (s + 1)) + 1 by omega]
        simpa using h2
      split at h
      · rename_i hc
        rcases List.mem_cons.1 h with e | h
        · subst e
          exact ⟨Nat.le_refl _, by simp, hc⟩
        · exact tail h
      · exact tail h
    · rintro ⟨h1, h2, h3⟩
      by_cases e : x.1 = s
      · rw [e] at h2 h3
        simp only [Nat.sub_self, List.getElem?_cons_zero, Option.some.injEq] at h2
        subst h2
        rw [if_pos h3]
        obtain ⟨i, o⟩ := x
        simp only at e
        subst e
        exact List.mem_cons_self
      · have : x ∈ rdy m r (s + 1) := ih.2 ⟨by omega, by rw [show x.1 - s = (x.1 - (s + 1)) + 1 by omega] at h2; simpa using h2, h3⟩
        split
        · exact List.mem_cons_of_mem _ this
        · exact this

theorem rdy_ready {ops : Array Oper} {listed : Array Bool} {m : Nat} (h : Rep ops listed m) (i : Nat) : i ∈ Region.ready .any ops listed ↔ ∃ o, (i, o) ∈ rdy m ops.toList 0 := by
  rw [mem_ready]
  constructor
  · rintro ⟨h1, o, h2, h3⟩
    rw [h.getD_true] at h1
    simp only [Bool.or_eq_false_iff] at h1
    refine ⟨o, (rdy_mem _ _ _ _).2 ⟨Nat.zero_le _, by simpa using h2, h1.1, ?_⟩⟩
    simp only [rdyOp, List.all_eq_true, Bool.or_eq_true, Bool.not_eq_true']
    intro e he
    cases hb : Region.binds .any e with
    | false => exact .inl rfl
    | true => exact .inr (by rw [← h.getD_false]; exact h3 e (by simpa using he) hb)
  · rintro ⟨o, h1⟩
    obtain ⟨_, h2, h3, h4⟩ := (rdy_mem _ _ _ _).1 h1
    have h2' : ops[i]? = some o := by simpa using h2
    have hlt : i < ops.size := (Array.getElem?_eq_some_iff.1 h2').1
    refine ⟨by rw [h.getD_true]; simp only [h3, Bool.false_or]; simp; omega, o, h2', fun e he hb => ?_⟩
    simp only [rdyOp, List.all_eq_true, Bool.or_eq_true, Bool.not_eq_true'] at h4
    rw [h.getD_false]
    exact (h4 e (by simpa using he)).resolve_left (by rw [hb]; simp)

theorem apartL_spec {ops : Array Oper} {i : Nat} {oi : Oper} {m : Nat} : ∀ (l : List Oper) (s : Nat), apartL ops i oi m l s = true → ∀ j oj, s ≤ j → l[j - s]? = some oj → j ≠ i → bit m j = false → (∀ e ∈ oj.after, Region.binds .any e = true → e.on ≠ i) → oi.apart ops oj = true
  | [], s, _, j, oj, _, h2, _, _, _ => by simp at h2
  | o :: r, s, h, j, oj, h1, h2, h3, h4, h5 => by
    simp only [apartL, Bool.and_eq_true, Bool.or_eq_true] at h
    by_cases e : j = s
    · subst e
      simp only [Nat.sub_self, List.getElem?_cons_zero, Option.some.injEq] at h2
      subst h2
      rcases h.1 with ((q | q) | q) | q
      · exact absurd (beq_iff.1 q) h3
      · rw [h4] at q; cases q
      · obtain ⟨e, he, hb⟩ := List.any_eq_true.1 q
        simp only [Bool.and_eq_true, beq_iff] at hb
        exact absurd hb.2 (h5 e (by simpa using he) hb.1)
      · exact q
    · exact apartL_spec r (s + 1) h.2 j oj (by omega) (by rw [show j - s = (j - (s + 1)) + 1 by omega] at h2; simpa using h2) h3 h4 h5

theorem firstAdv_spec {ops : Array Oper} {m i : Nat} {o : Oper} : ∀ (l : List (Nat × Oper)), firstAdv ops m l = some (i, o) → (i, o) ∈ l ∧ isPure o.op = true ∧ apartL ops i o m ops.toList 0 = true
  | [], h => by simp [firstAdv] at h
  | (j, oj) :: r, h => by
    simp only [firstAdv, Bool.cond_eq_ite, Bool.and_eq_true] at h
    split at h
    · rename_i hc
      simp only [Option.some.injEq, Prod.mk.injEq] at h
      obtain ⟨rfl, rfl⟩ := h
      exact ⟨List.mem_cons_self, hc⟩
    · obtain ⟨h1, h2⟩ := firstAdv_spec r h
      exact ⟨List.mem_cons_of_mem _ h1, h2⟩

theorem noSel_spec {ops : Array Oper} (h : noSel ops.toList = true) (j : Nat) (o : Oper) (cs : Array SelectCase) (b : Bool) (ho : ops[j]? = some o) : o.op ≠ .select cs b := by
  intro heq
  simp only [noSel, List.all_eq_true] at h
  have := h o (by simpa using Array.mem_of_getElem? ho)
  simp [heq] at this

theorem dr_ok {Γ : FuncId → Option CT} (hΓ : ∀ g F, Γ g = some F → CTok P g F) {ops : Array Oper} (hsel : noSel ops.toList = true) {k : St → Bool} {Q : Exit → Act → World → Prop} (hQp : ∀ c a w, ¬ Q (.panic c) a w) :
    ∀ (n : Nat) (m : Nat) (listed : Array Bool) {μ : Mu} {A : Nat → Prop} {σ : St} {a : Act} {w : World} (hrep : Rep ops listed m) (hR : Rel P μ A σ a w) (hk : dr P Γ ops n m σ k = true) (hn : ∀ a' w', Post P μ A σ w k a' w' → Q .normal a' w'),
      wpAny P .any ops Q n listed a w := by
  have done : ∀ {m : Nat} {listed : Array Bool}, Rep ops listed m → rdy m ops.toList 0 = [] → Region.ready .any ops listed = [] := fun {m listed} hrep h0 => by
    cases hr : Region.ready .any ops listed with
    | nil => rfl
    | cons i r =>
      obtain ⟨o, ho⟩ := (rdy_ready hrep i).1 (by rw [hr]; exact List.mem_cons_self)
      rw [h0] at ho
      cases ho
  intro n
  induction n with
  | zero =>
    intro m listed μ A σ a w hrep hR hk hn
    simp only [dr] at hk
    split at hk
    · rename_i h0
      exact wpAny_done (done hrep h0) (hn a w ⟨σ, μ, A, hk, rfl, hR, .refl hR.env⟩) 0
    · cases hk
  | succ n ih =>
    intro m listed μ A σ a w hrep hR hk hn
    simp only [dr] at hk
    -- what stands behind a value put
    have behind : ∀ {i : Nat} {o : Oper} {τ ρ : St} {v : V} {x : Value}, i < ops.size → Rel P μ A τ a w → τ.h = σ.h → τ.nt = σ.nt → VR μ A v x → putD o.dst v τ = some ρ → dr P Γ ops n (setBit m i) ρ k = true →
        wpAny P .any ops Q n (listed.setIfInBounds i true) (a.put o.dst x) w := fun {i o τ ρ v x} hi hτ h3 h4 hv hp hd => by
      obtain ⟨r1, r2, r3⟩ := hτ.put (Leads.refl hτ.env) hv hp
      refine ih _ _ (hrep.set hi) r1 hd fun a' w' hp' => hn a' w' ?_
      obtain ⟨ρ', μ'', A'', q1, q2, q3, q4⟩ := hp'
      exact ⟨ρ', μ'', A'', q1, q2.trans (r3.trans h4), q3, by rw [← h3, ← r2]; exact q4⟩
    split at hk
    · rename_i h0
      exact wpAny_done (done hrep h0) (hn a w ⟨σ, μ, A, hk, rfl, hR, .refl hR.env⟩) _
    · rename_i hne
      split at hk
      · -- an operation without memory
        rename_i i o hadv
        obtain ⟨h1, h2, h3⟩ := firstAdv_spec _ hadv
        have hi := (rdy_ready hrep i).2 ⟨o, h1⟩
        obtain ⟨_, g2, _⟩ := (rdy_mem _ _ _ _).1 h1
        have ho : ops[i]? = some o := by simpa using g2
        have hlt : i < ops.size := (Array.getElem?_eq_some_iff.1 ho).1
        have hfree : ∀ j oj, ops[j]? = some oj → j ≠ i → listed.getD j true = false → (∀ e ∈ oj.after, Region.binds .any e = true → e.on ≠ i) → o.apart ops oj = true := fun j oj hj hne hun hno => by
          rw [hrep.getD_true] at hun
          simp only [Bool.or_eq_false_iff] at hun
          exact apartL_spec _ 0 h3 j oj (Nat.zero_le _) (by simpa using hj) hne hun.1 hno
        obtain ⟨τ, k1, k2, k3, k4⟩ := guardK_ok hR hk
        have hy : ∃ x, Yields P ops o x a ∧ wpAny P .any ops Q n (listed.setIfInBounds i true) (a.put o.dst x) w := by
          cases hw : Region.wanted o (yielded ops a.tmps) with
          | true =>
            rw [hw] at k1
            simp only at k1
            split at k1
            · rename_i c v hpc
              simp only [Bool.cond_eq_ite] at k1
              split at k1
              · rename_i hc
                split at k1
                · rename_i ρ hp
                  obtain ⟨z, z1, z2⟩ := pureC_ok (P := P) (μ := μ) (A := A) (ρ := a.eval) (fun x v hx => ev_ok k2 hx) hpc hc
                  exact ⟨z, .inl ⟨hw, z2⟩, behind hlt k2 k3 k4 z1 hp k1⟩
                · cases k1
              · cases k1
            · cases k1
          | false =>
            rw [hw] at k1
            simp only at k1
            split at k1
            · rename_i ρ hp
              exact ⟨undef, .inr ⟨hw, rfl⟩, behind (v := .tu []) hlt k2 k3 k4 (by simp only [VR]; exact ⟨[], rfl, by simp [VRs]⟩) hp k1⟩
            · cases k1
        obtain ⟨x, x1, x2⟩ := hy
        exact wpAny_first ho (noSel_spec hsel) (fun c a w h => absurd h (hQp _ _ _)) n listed a w hfree hi x1 x2
      · -- every one that may be next
        replace hk := allL_spec _ _ hk
        refine ⟨fun h0 => ?_, fun i hi => ?_⟩
        · exfalso
          cases hr : rdy m ops.toList 0 with
          | nil => exact hne hr
          | cons x r =>
            have : x.1 ∈ Region.ready .any ops listed := (rdy_ready hrep x.1).2 ⟨x.2, by rw [hr]; exact List.mem_cons_self⟩
            rw [h0] at this
            cases this
        · obtain ⟨o, hmem⟩ := (rdy_ready hrep i).1 hi
          obtain ⟨_, g2, _⟩ := (rdy_mem _ _ _ _).1 hmem
          have ho : ops[i]? = some o := by simpa using g2
          have hlt : i < ops.size := (Array.getElem?_eq_some_iff.1 ho).1
          obtain ⟨τ, k1, k2, k3, k4⟩ := guardK_ok hR (hk (i, o) hmem)
          unfold wpOp
          simp only [ho]
          by_cases hw : Region.wanted o (yielded ops a.tmps) = true
          · rw [hw] at k1
            rw [if_pos hw]
            left
            refine runOp_ok hΓ k2 k1 fun a' w' hp => ?_
            obtain ⟨ρ, μ', A', p1, p2, p3, p4⟩ := hp
            refine ih _ _ (hrep.set hlt) p3 p1 fun a'' w'' hp' => hn a'' w'' ?_
            obtain ⟨ρ', μ'', A'', q1, q2, q3, q4⟩ := hp'
            exact ⟨ρ', μ'', A'', q1, q2.trans (p2.trans k4), q3, by rw [← k3]; exact p4.trans q4⟩
          · rw [Bool.not_eq_true] at hw
            rw [hw] at k1
            rw [if_neg (by simp [hw])]
            simp only at k1
            split at k1
            · rename_i ρ hp
              exact behind (v := .tu []) hlt k2 k3 k4 (by simp only [VR]; exact ⟨[], rfl, by simp [VRs]⟩) hp k1
            · cases k1

theorem Leads.drew {μ : Mu} {A : Nat → Prop} {h : H} {w : World} (hE : Env P μ A h w) (d : Nat) : Leads P μ A h w μ A h { w with drawn := d } :=
  ⟨⟨hE.hr.drew d, hE.bound, hE.glob, hE.lo⟩, (Step.refl hE.hr).drew d, Nat.le_refl _⟩

theorem DR_ok (hm : P.follows .mixedOrders = true) {Γ : FuncId → Option CT} (hΓ : ∀ g F, Γ g = some F → CTok P g F) : Dok P (DR P Γ) := by
  intro id ops σ k μ A a w hk hR
  simp only [DR, Bool.cond_eq_ite, Array.toArray_toList] at hk
  split at hk
  · rename_i hsel
    have hL := Leads.drew hR.env (w.drawn + 1)
    refine wp_region_any hm ?_
    refine dr_ok hΓ hsel (fun c a w h => by cases h.1) ops.size 0 _ (Rep.init ops) (σ := σ) ⟨hR.defers, hR.nt, hR.fr, hL.env⟩ (by simpa using hk) fun a' w' hp => ⟨rfl, ?_⟩
    obtain ⟨ρ', μ'', A'', q1, q2, q3, q4⟩ := hp
    exact ⟨ρ', μ'', A'', q1, q2, q3, hL.trans q4⟩
  · cases hk

/-- The whole: a function's contract by the executor, so many calls deep. -/
theorem run_ok (hm : P.follows .mixedOrders = true) {over : FuncId → Option CT} (hover : ∀ g F, over g = some F → CTok P g F) (fuel n : Nat) (g : FuncId) (F : CT) (h : calls P over (DR P) fuel n g = some F) : CTok P g F :=
  calls_ok hover (fun _ hΓ => DR_ok hm hΓ) fuel n g F h

end
end Go.Proofs.Yteionboacdkfjaa.X
