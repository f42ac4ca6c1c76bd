/-
  X, part N: regions whose order is drawn: operations without memory are taken as soon as they may; of the others every order is gone through.
-/
import Derived.Test.YteionboacdkfjaaDoorYM
import Derived.Orders
namespace Go.Proofs.YteionboacdkfjaaDoor.X
set_option linter.unusedSectionVars false

noncomputable def bit (m i : Nat) : Bool := Nat.beq (Nat.land (Nat.shiftRight m i) 1) 1

noncomputable def rdyOp (m : Nat) (o : Oper) : Bool := o.after.toList.all fun e => !Region.binds .any e || bit m e.on

/-- What may be taken: numbers with their operations. -/
noncomputable def rdy (m : Nat) : List Oper → Nat → List (Nat × Oper)
  | [], _ => []
  | o :: r, i => cond (!bit m i && rdyOp m o) ((i, o) :: rdy m r (i + 1)) (rdy m r (i + 1))

noncomputable def apartL (ops : Array Oper) (i : Nat) (oi : Oper) (m : Nat) : List Oper → Nat → Bool
  | [], _ => true
  | o :: r, j => (Nat.beq j i || bit m j || o.after.toList.any (fun e => Region.binds .any e && Nat.beq e.on i) || oi.apart ops o) && apartL ops i oi m r (j + 1)

/-- Nothing that may come ahead of it does more than make new blocks. -/
noncomputable def softL (sf : FuncId → Bool) (i : Nat) (m : Nat) : List Oper → Nat → Bool
  | [], _ => true
  | o :: r, j => (Nat.beq j i || bit m j || o.after.toList.any (fun e => Region.binds .any e && Nat.beq e.on i) || softO sf o.op) && softL sf i m r (j + 1)

noncomputable def firstAdv (sf : FuncId → Bool) (ops : Array Oper) (m : Nat) : List (Nat × Oper) → Option (Nat × Oper)
  | [] => none
  | (i, o) :: r => cond ((isPure o.op || (isLoad o.op && softL sf i m ops.toList 0)) && apartL ops i o m ops.toList 0) (some (i, o)) (firstAdv sf ops m r)

/-- All of a list; of a list of one, that one. -/
noncomputable def allL {α : Type} (f : α → Bool) : List α → Bool
  | [] => true
  | [x] => f x
  | x :: y :: r => cond (f x) (allL f (y :: r)) false

theorem allL_spec {α : Type} (f : α → Bool) : ∀ (l : List α), allL f l = true → ∀ x ∈ l, f x = true
  | [], _, x, hx => by cases hx
  | [y], h, x, hx => by
    simp only [List.mem_singleton] at hx
    subst hx
    exact h
  | y :: z :: r, h, x, hx => by
    simp only [allL, Bool.cond_eq_ite] at h
    split at h
    · rename_i hy
      rcases List.mem_cons.1 hx with rfl | hx
      · exact hy
      · exact allL_spec f (z :: r) h x hx
    · cases h

noncomputable def setBit (m i : Nat) : Nat := Nat.lor m (Nat.shiftLeft 1 i)

/-- What an operation that is taken early yields. -/
noncomputable def advC (P : Program) [Tb P] (o : Oper) (σ : St) : Option (Bool × V) :=
  match o.op with
  | .load t x => (ev P σ.fr x).bind (loadC P σ.h t)
  | op => pureC P (ev P σ.fr) op

noncomputable def dr (P : Program) [Tb P] (sf : FuncId → Bool) (Γ : FuncId → Option CT) (ops : Array Oper) : Nat → Nat → St → (St → Bool) → Bool
  | 0, m, σ, k => match rdy m ops.toList 0 with
    | [] => k σ
    | _ => false
  | n + 1, m, σ, k => match rdy m ops.toList 0 with
    | [] => k σ
    | rs => match firstAdv sf ops m rs with
      | some (i, o) => guardK ops.toList o σ fun w τ => match w with
        | true => (match advC P o τ with
          | some (c, v) => cond c (match putD o.dst v τ with
            | some ρ => dr P sf Γ ops n (setBit m i) ρ k
            | none => false) false
          | none => false)
        | false => match putD o.dst (.tu []) τ with
          | some ρ => dr P sf Γ ops n (setBit m i) ρ k
          | none => false
      | none => allL (fun x => guardK ops.toList x.2 σ fun w τ => match w with
        | true => runOp P Γ x.2 τ fun ρ => dr P sf Γ ops n (setBit m x.1) ρ k
        | false => match putD x.2.dst (.tu []) τ with
          | some ρ => dr P sf Γ ops n (setBit m x.1) ρ k
          | none => false) rs

noncomputable def noSel (ops : List Oper) : Bool := ops.all fun o => match o.op with | .select .. => false | _ => true

/-- A table ahead of another. -/
noncomputable def aheadOf (so Γ : FuncId → Option CT) : FuncId → Option CT := fun g => match so g with
  | some F => some F
  | none => Γ g
noncomputable def inT (so : FuncId → Option CT) (g : FuncId) : Bool := match so g with
  | some _ => true
  | none => false

/-- The runner of such regions; 'so' holds the contracts of functions that change nothing of what was there. -/
noncomputable def DR (P : Program) [Tb P] (so : FuncId → Option CT) (Γ : FuncId → Option CT) (ops : List Oper) (σ : St) (k : St → Bool) : Bool :=
  cond (noSel ops) (dr P (inT so) (aheadOf so Γ) ops.toArray ops.length 0 σ k) false

section
variable {P : Program} [Tb P]

theorem bit_spec (m i : Nat) : bit m i = m.testBit i := by
  unfold bit Nat.testBit
  rw [Bool.eq_iff_iff]
  simp only [beq_iff, bne_iff_ne, ne_eq]
  have h1 : Nat.land (Nat.shiftRight m i) 1 = (m >>> i) &&& 1 := rfl
  rw [h1, Nat.and_one_is_mod, Nat.one_and_eq_mod_two]
  omega

theorem bit_set (m i j : Nat) : bit (setBit m i) j = (bit m j || decide (i = j)) := by
  rw [bit_spec, bit_spec]
  show (m ||| (1 <<< i)).testBit j = _
  rw [Nat.testBit_or]
  congr 1
  rw [Nat.one_shiftLeft, Nat.testBit_two_pow]

/-- The mask stands for the list of what is done. -/
structure Rep (ops : Array Oper) (listed : Array Bool) (m : Nat) : Prop where
  size : listed.size = ops.size
  bits : ∀ i, i < ops.size → listed[i]? = some (bit m i)
  hi : ∀ i, ops.size ≤ i → bit m i = false

theorem Rep.set {ops : Array Oper} {listed : Array Bool} {m i : Nat} (h : Rep ops listed m) (hi : i < ops.size) : Rep ops (listed.setIfInBounds i true) (setBit m i) := by
  refine ⟨by simp [h.size], fun j hj => ?_, fun j hj => ?_⟩
  · rw [bit_set]
    by_cases e : i = j
    · subst e
      rw [Array.getElem?_setIfInBounds_self_of_lt (by rw [h.size]; exact hi)]
      simp
    · rw [Array.getElem?_setIfInBounds_ne e, h.bits j hj]
      simp [e]
  · rw [bit_set, h.hi j hj]
    simp
    omega

theorem Rep.init (ops : Array Oper) : Rep ops (Array.replicate ops.size false) 0 := by
  have hb : ∀ i, bit 0 i = false := fun i => by rw [bit_spec]; simp
  exact ⟨by simp, fun i hi => by rw [hb]; simp [hi], fun i _ => hb i⟩

theorem Rep.getD_true {ops : Array Oper} {listed : Array Bool} {m : Nat} (h : Rep ops listed m) (i : Nat) : listed.getD i true = (bit m i || decide (ops.size ≤ i)) := by
  rw [Array.getD_eq_getD_getElem?]
  by_cases e : i < ops.size
  · rw [h.bits i e]; simp; omega
  · rw [Array.getElem?_eq_none (by rw [h.size]; omega)]; simp; omega
theorem Rep.getD_false {ops : Array Oper} {listed : Array Bool} {m : Nat} (h : Rep ops listed m) (i : Nat) : listed.getD i false = bit m i := by
  rw [Array.getD_eq_getD_getElem?]
  by_cases e : i < ops.size
  · rw [h.bits i e]; simp
  · rw [Array.getElem?_eq_none (by rw [h.size]; omega), h.hi i (by omega)]; rfl

theorem rdy_mem (m : Nat) : ∀ (l : List Oper) (s : Nat) (x : Nat × Oper), x ∈ rdy m l s ↔ s ≤ x.1 ∧ l[x.1 - s]? = some x.2 ∧ bit m x.1 = false ∧ rdyOp m x.2 = true
  | [], s, x => by simp [rdy]
  | o :: r, s, x => by
    have ih := rdy_mem m r (s + 1) x
    simp only [rdy, Bool.cond_eq_ite, Bool.and_eq_true, Bool.not_eq_true']
    constructor
    · intro h
      have tail : x ∈ rdy m r (s + 1) → s ≤ x.1 ∧ (o :: r)[x.1 - s]? = some x.2 ∧ bit m x.1 = false ∧ rdyOp m x.2 = true := fun h => by
        obtain ⟨h1, h2, h3⟩ := ih.1 h
        refine ⟨by omega, ?_, h3⟩
        rw [show x.1 - s = (x.1 - (s + 1)) + 1 by omega]
        simpa using h2
      split at h
      · rename_i hc
        rcases List.mem_cons.1 h with e | h
        · subst e
          exact ⟨Nat.le_refl _, by simp, hc⟩
        · exact tail h
      · exact tail h
    · rintro ⟨h1, h2, h3⟩
      by_cases e : x.1 = s
      · rw [e] at h2 h3
        simp only [Nat.sub_self, List.getElem?_cons_zero, Option.some.injEq] at h2
        subst h2
        rw [if_pos h3]
        obtain ⟨i, o⟩ := x
        simp only at e
        subst e
        exact List.mem_cons_self
      · have : x ∈ rdy m r (s + 1) := ih.2 ⟨by omega, by rw [show x.1 - s = (x.1 - (s + 1)) + 1 by omega] at h2; simpa using h2, h3⟩
        split
        · exact List.mem_cons_of_mem _ this
        · exact this

theorem rdy_ready {ops : Array Oper} {listed : Array Bool} {m : Nat} (h : Rep ops listed m) (i : Nat) : i ∈ Region.ready .any ops listed ↔ ∃ o, (i, o) ∈ rdy m ops.toList 0 := by
  rw [mem_ready]
  constructor
  · rintro ⟨h1, o, h2, h3⟩
    rw [h.getD_true] at h1
    simp only [Bool.or_eq_false_iff] at h1
    refine ⟨o, (rdy_mem _ _ _ _).2 ⟨Nat.zero_le _, by simpa using h2, h1.1, ?_⟩⟩
    simp only [rdyOp, List.all_eq_true, Bool.or_eq_true, Bool.not_eq_true']
    intro e he
    cases hb : Region.binds .any e with
    | false => exact .inl rfl
    | true => exact .inr (by rw [← h.getD_false]; exact h3 e (by simpa using he) hb)
  · rintro ⟨o, h1⟩
    obtain ⟨_, h2, h3, h4⟩ := (rdy_mem _ _ _ _).1 h1
    have h2' : ops[i]? = some o := by simpa using h2
    have hlt : i < ops.size := (Array.getElem?_eq_some_iff.1 h2').1
    refine ⟨by rw [h.getD_true]; simp only [h3, Bool.false_or]; simp; omega, o, h2', fun e he hb => ?_⟩
    simp only [rdyOp, List.all_eq_true, Bool.or_eq_true, Bool.not_eq_true'] at h4
    rw [h.getD_false]
    exact (h4 e (by simpa using he)).resolve_left (by rw [hb]; simp)

theorem apartL_spec {ops : Array Oper} {i : Nat} {oi : Oper} {m : Nat} : ∀ (l : List Oper) (s : Nat), apartL ops i oi m l s = true → ∀ j oj, s ≤ j → l[j - s]? = some oj → j ≠ i → bit m j = false → (∀ e ∈ oj.after, Region.binds .any e = true → e.on ≠ i) → oi.apart ops oj = true
  | [], s, _, j, oj, _, h2, _, _, _ => by simp at h2
  | o :: r, s, h, j, oj, h1, h2, h3, h4, h5 => by
    simp only [apartL, Bool.and_eq_true, Bool.or_eq_true] at h
    by_cases e : j = s
    · subst e
      simp only [Nat.sub_self, List.getElem?_cons_zero, Option.some.injEq] at h2
      subst h2
      rcases h.1 with ((q | q) | q) | q
      · exact absurd (beq_iff.1 q) h3
      · rw [h4] at q; cases q
      · obtain ⟨e, he, hb⟩ := List.any_eq_true.1 q
        simp only [Bool.and_eq_true, beq_iff] at hb
        exact absurd hb.2 (h5 e (by simpa using he) hb.1)
      · exact q
    · exact apartL_spec r (s + 1) h.2 j oj (by omega) (by rw [show j - s = (j - (s + 1)) + 1 by omega] at h2; simpa using h2) h3 h4 h5

theorem softL_spec {sf : FuncId → Bool} {i m : Nat} : ∀ (l : List Oper) (s : Nat), softL sf i m l s = true → ∀ j oj, s ≤ j → l[j - s]? = some oj → j ≠ i → bit m j = false → (∀ e ∈ oj.after, Region.binds .any e = true → e.on ≠ i) → softO sf oj.op = true
  | [], s, _, j, oj, _, h2, _, _, _ => by simp at h2
  | o :: r, s, h, j, oj, h1, h2, h3, h4, h5 => by
    simp only [softL, Bool.and_eq_true, Bool.or_eq_true] at h
    by_cases e : j = s
    · subst e
      simp only [Nat.sub_self, List.getElem?_cons_zero, Option.some.injEq] at h2
      subst h2
      rcases h.1 with ((q | q) | q) | q
      · exact absurd (beq_iff.1 q) h3
      · rw [h4] at q; cases q
      · obtain ⟨e, he, hb⟩ := List.any_eq_true.1 q
        simp only [Bool.and_eq_true, beq_iff] at hb
        exact absurd hb.2 (h5 e (by simpa using he) hb.1)
      · exact q
    · exact softL_spec r (s + 1) h.2 j oj (by omega) (by rw [show j - s = (j - (s + 1)) + 1 by omega] at h2; simpa using h2) h3 h4 h5

theorem firstAdv_spec {sf : FuncId → Bool} {ops : Array Oper} {m i : Nat} {o : Oper} : ∀ (l : List (Nat × Oper)), firstAdv sf ops m l = some (i, o) → (i, o) ∈ l ∧ (isPure o.op = true ∨ (isLoad o.op = true ∧ softL sf i m ops.toList 0 = true)) ∧ apartL ops i o m ops.toList 0 = true
  | [], h => by simp [firstAdv] at h
  | (j, oj) :: r, h => by
    simp only [firstAdv, Bool.cond_eq_ite, Bool.and_eq_true, Bool.or_eq_true] at h
    split at h
    · rename_i hc
      simp only [Option.some.injEq, Prod.mk.injEq] at h
      obtain ⟨rfl, rfl⟩ := h
      exact ⟨List.mem_cons_self, hc⟩
    · obtain ⟨h1, h2⟩ := firstAdv_spec r h
      exact ⟨List.mem_cons_of_mem _ h1, h2⟩

theorem noSel_spec {ops : Array Oper} (h : noSel ops.toList = true) (j : Nat) (o : Oper) (cs : Array SelectCase) (b : Bool) (ho : ops[j]? = some o) : o.op ≠ .select cs b := by
  intro heq
  simp only [noSel, List.all_eq_true] at h
  have := h o (by simpa using Array.mem_of_getElem? ho)
  simp [heq] at this

/-- All orders, and of each operation that makes no more than new blocks: that it makes no more. -/
def wpAnyR (P : Program) [Tb P] (sf : FuncId → Bool) (ops : Array Oper) (Q : Exit → Act → World → Prop) : Nat → Array Bool → Act → World → Prop
  | 0, listed, a, w => Region.ready .any ops listed = [] ∧ Q .normal a w
  | fuel + 1, listed, a, w =>
    (Region.ready .any ops listed = [] → Q .normal a w) ∧
    ∀ i ∈ Region.ready .any ops listed, wpOp P ops Q i (fun a' w' => ((∃ o, ops[i]? = some o ∧ softO sf o.op = true) → Ext (fun _ _ => False) w w') ∧ wpAnyR P sf ops Q fuel (listed.setIfInBounds i true) a' w') a w

section
variable {sf : FuncId → Bool} {ops : Array Oper} {Q : Exit → Act → World → Prop}

theorem wpAnyR_any : ∀ (fuel : Nat) (listed : Array Bool) (a : Act) (w : World), wpAnyR P sf ops Q fuel listed a w → wpAny P .any ops Q fuel listed a w
  | 0, _, _, _, h => h
  | fuel + 1, listed, a, w, h => ⟨h.1, fun i hi => wpOp_mono (fun a' w' h' => wpAnyR_any fuel _ a' w' h'.2) (h.2 i hi)⟩

theorem wpAnyR_done {listed : Array Bool} {a : Act} {w : World} (hr : Region.ready .any ops listed = []) (h : Q .normal a w) : ∀ fuel, wpAnyR P sf ops Q fuel listed a w
  | 0 => ⟨hr, h⟩
  | _ + 1 => ⟨fun _ => h, by rw [hr]; simp⟩

/-- Two states in which an operation does the same. -/
def SameAt (ops : Array Oper) (o : Oper) (a a' : Act) : Prop := execOp a'.eval o = execOp a.eval o ∧ Region.wanted o (yielded ops a'.tmps) = Region.wanted o (yielded ops a.tmps)

theorem wpOp_early {j : Nat} {oi oj : Oper} {v : Value} (hj : ops[j]? = some oj) (hap : oi.apart ops oj = true) (hsi : ∀ cs b, oi.op ≠ .select cs b) (hsj : ∀ cs b, oj.op ≠ .select cs b) (hQ : ∀ c a w, ¬ Q (.panic c) a w)
    {K : Act → World → Prop} {a : Act} {w : World} (h : wpOp P ops Q j K (a.put oi.dst v) w) : wpOp P ops Q j (fun a' w' => SameAt ops oi a a' ∧ K (a'.put oi.dst v) w') a w := by
  obtain ⟨h1, h2, h3⟩ := Oper.apart_spec hap
  have keep : ∀ u, SameAt ops oi a (a.put oj.dst u) := fun u => ⟨execOp_put oi hsi a oj.dst u h3, wanted_put oi a oj.dst u h3⟩
  have keepD : ∀ d u, SameAt ops oi a ({ a with defers := d :: a.defers }.put oj.dst u) := fun d u =>
    ⟨execOp_put oi hsi { a with defers := d :: a.defers } oj.dst u h3, wanted_put oi { a with defers := d :: a.defers } oj.dst u h3⟩
  unfold wpOp at *
  simp only [hj] at *
  rw [wanted_put oj a oi.dst v h1] at h
  split
  · rename_i hw
    simp only [hw, if_true] at h
    rcases h with h | ⟨hasks, hlets⟩
    case inr => exact .inr ⟨by unfold Oper.asks at *; rw [execOp_put oj hsj a oi.dst v h1] at hasks; exact hasks, hlets⟩
    refine .inl ?_
    unfold Oper.wp at *
    rw [execOp_put oj hsj a oi.dst v h1] at h
    generalize (execOp a.eval oj).run P w = r at *
    cases r with
    | ok n w' =>
      cases n <;> simp only [Oper.upon] at h ⊢
      case value u => exact ⟨keep u, by rw [← Act.put_comm a v u h2]; exact h⟩
      case skip => exact ⟨keep _, by rw [← Act.put_comm a v undef h2]; exact h⟩
      case defer d => exact ⟨keepD d _, by rw [← Act.put_comm _ v undef h2, ← Act.put_defers]; exact h⟩
      case enter f args =>
        refine Calls.mono h fun e w'' he => ?_
        cases e with
        | returned u => exact ⟨keep u, by rw [← Act.put_comm a v u h2]; exact he⟩
        | panicked c => exact absurd he (hQ _ _ _)
        | outgrown => exact he
      case row row args => exact Rows.mono h fun u w'' he => ⟨keep u, by rw [← Act.put_comm a v u h2]; exact he⟩
    | halt x w' =>
      cases x <;> simp only [Oper.upon] at h ⊢
      case panic u => exact absurd h (hQ _ _ _)
  · rename_i hw
    simp only [hw] at h
    exact ⟨keep _, by rw [← Act.put_comm a v undef h2]; exact h⟩

/-- An operation that yields the same in each world that may come ahead of it is taken first. -/
theorem wpAnyR_first (G : World → World → Prop) (hG0 : ∀ w, G w w) (hGt : ∀ a b c, G a b → G b c → G a c) {i : Nat} {oi : Oper} {v : Value} (hi : ops[i]? = some oi) (hsel : ∀ (j : Nat) (o : Oper) cs b, ops[j]? = some o → o.op ≠ .select cs b)
    (hQ : ∀ c a w, ¬ Q (.panic c) a w) :
    ∀ (fuel : Nat) (listed : Array Bool) (a : Act) (w : World),
      (∀ j oj, ops[j]? = some oj → j ≠ i → listed.getD j true = false → (∀ e ∈ oj.after, Region.binds .any e = true → e.on ≠ i) → oi.apart ops oj = true ∧ ∀ w w', (softO sf oj.op = true → Ext (fun _ _ => False) w w') → G w w') →
      i ∈ Region.ready .any ops listed → (∀ w', G w w' → (Region.wanted oi (yielded ops a.tmps) = true ∧ (execOp a.eval oi).run P w' = .ok (.value v) w') ∨ (Region.wanted oi (yielded ops a.tmps) = false ∧ v = undef)) →
      wpAnyR P sf ops Q fuel (listed.setIfInBounds i true) (a.put oi.dst v) w → wpAnyR P sf ops Q (fuel + 1) listed a w := by
  have self : ∀ {K : Act → World → Prop} {a : Act} {w : World}, ((Region.wanted oi (yielded ops a.tmps) = true ∧ (execOp a.eval oi).run P w = .ok (.value v) w) ∨ (Region.wanted oi (yielded ops a.tmps) = false ∧ v = undef)) → K (a.put oi.dst v) w → wpOp P ops Q i K a w := fun {K a w} hy hk => by
    unfold Go.wpOp
    simp only [hi]
    rcases hy with ⟨hw, hv⟩ | ⟨hw, rfl⟩
    · simp only [hw, if_true, Oper.wp, hv, Oper.upon]; exact .inl hk
    · simp only [hw, Bool.false_eq_true, if_false]; exact hk
  intro fuel
  induction fuel with
  | zero =>
    intro listed a w _ hr hy H
    refine ⟨fun h => (by rw [h] at hr; cases hr), fun j hj => ?_⟩
    by_cases hji : j = i
    · subst hji; exact self (hy w (hG0 w)) ⟨fun _ => Ext.refl _ _, H⟩
    · have := ready_mono hj hji
      rw [H.1] at this
      cases this
  | succ fuel ih =>
    intro listed a w hfree hr hy H
    refine ⟨fun h => (by rw [h] at hr; cases hr), fun j hj => ?_⟩
    by_cases hji : j = i
    · subst hji; exact self (hy w (hG0 w)) ⟨fun _ => Ext.refl _ _, H⟩
    · have h1 := H.2 j (ready_mono hj hji)
      obtain ⟨hjun, oj, hoj, hall⟩ := mem_ready.1 hj
      have hnot : ∀ e ∈ oj.after, Region.binds .any e = true → e.on ≠ i := fun e he hb heq => by
        have h1 := hall e he hb
        have h0 := (mem_ready.1 hr).1
        rw [heq] at h1
        rcases Nat.lt_or_ge i listed.size with h' | h'
        · simp [h'] at h0 h1; rw [h0] at h1; cases h1
        · simp [Array.getElem?_eq_none h'] at h1
      obtain ⟨f1, f2⟩ := hfree j oj hoj hji hjun hnot
      have h2 := wpOp_early hoj f1 (fun cs b => hsel i oi cs b hi) (fun cs b => hsel j oj cs b hoj) hQ h1
      have hfree' : ∀ k ok, ops[k]? = some ok → k ≠ i → (listed.setIfInBounds j true).getD k true = false →
          (∀ e ∈ ok.after, Region.binds .any e = true → e.on ≠ i) → oi.apart ops ok = true ∧ ∀ w w', (softO sf ok.op = true → Ext (fun _ _ => False) w w') → G w w' := fun k ok hk hki hun hno => by
        refine hfree k ok hk hki ?_ hno
        by_cases hjk : j = k
        · subst hjk; exact hjun
        · rw [getD_set_ne true hjk] at hun; exact hun
      refine wpOp_mono (fun a' w' h3 => ?_) h2
      obtain ⟨⟨s1, s2⟩, h4, h5⟩ := h3
      refine ⟨h4, ih (listed.setIfInBounds j true) a' w' hfree' (ready_mono hr (Ne.symm hji)) (fun w'' hw'' => ?_) ?_⟩
      · have hg : G w w'' := hGt _ _ _ (f2 w w' (fun hs => h4 ⟨oj, hoj, hs⟩)) hw''
        rw [s1, s2]
        exact hy w'' hg
      · rw [Array.setIfInBounds_comm _ _ hji]
        exact h5

end

theorem dr_ok {sf : FuncId → Bool} {Γ : FuncId → Option CT} (hΓ : ∀ g F, Γ g = some F → CTokE P (sf g) g F) {ops : Array Oper} (hsel : noSel ops.toList = true) {k : St → Bool} {Q : Exit → Act → World → Prop} (hQp : ∀ c a w, ¬ Q (.panic c) a w) :
    ∀ (n : Nat) (m : Nat) (listed : Array Bool) {μ : Mu} {A : Nat → Prop} {σ : St} {a : Act} {w : World} (hrep : Rep ops listed m) (hR : Rel P μ A σ a w) (hk : dr P sf Γ ops n m σ k = true) (hn : ∀ a' w', Post P μ A σ w k a' w' → Q .normal a' w'),
      wpAnyR P sf ops Q n listed a w := by
  have done : ∀ {m : Nat} {listed : Array Bool}, Rep ops listed m → rdy m ops.toList 0 = [] → Region.ready .any ops listed = [] := fun {m listed} hrep h0 => by
    cases hr : Region.ready .any ops listed with
    | nil => rfl
    | cons i r =>
      obtain ⟨o, ho⟩ := (rdy_ready hrep i).1 (by rw [hr]; exact List.mem_cons_self)
      rw [h0] at ho
      cases ho
  intro n
  induction n with
  | zero =>
    intro m listed μ A σ a w hrep hR hk hn
    simp only [dr] at hk
    split at hk
    · rename_i h0
      exact wpAnyR_done (done hrep h0) (hn a w ⟨σ, μ, A, hk, rfl, hR, .refl hR.env⟩) 0
    · cases hk
  | succ n ih =>
    intro m listed μ A σ a w hrep hR hk hn
    simp only [dr] at hk
    -- what stands behind a value put
    have behind : ∀ {i : Nat} {o : Oper} {τ ρ : St} {v : V} {x : Value}, i < ops.size → Rel P μ A τ a w → τ.h = σ.h → τ.nt = σ.nt → VR μ A v x → putD o.dst v τ = some ρ → dr P sf Γ ops n (setBit m i) ρ k = true →
        wpAnyR P sf ops Q n (listed.setIfInBounds i true) (a.put o.dst x) w := fun {i o τ ρ v x} hi hτ h3 h4 hv hp hd => by
      obtain ⟨r1, r2, r3⟩ := hτ.put (Leads.refl hτ.env) hv hp
      refine ih _ _ (hrep.set hi) r1 hd fun a' w' hp' => hn a' w' ?_
      obtain ⟨ρ', μ'', A'', q1, q2, q3, q4⟩ := hp'
      exact ⟨ρ', μ'', A'', q1, q2.trans (r3.trans h4), q3, by rw [← h3, ← r2]; exact q4⟩
    split at hk
    · rename_i h0
      exact wpAnyR_done (done hrep h0) (hn a w ⟨σ, μ, A, hk, rfl, hR, .refl hR.env⟩) _
    · rename_i hne
      split at hk
      · -- an operation without memory
        rename_i i o hadv
        obtain ⟨h1, h2, h3⟩ := firstAdv_spec _ hadv
        have hi := (rdy_ready hrep i).2 ⟨o, h1⟩
        obtain ⟨_, g2, _⟩ := (rdy_mem _ _ _ _).1 h1
        have ho : ops[i]? = some o := by simpa using g2
        have hlt : i < ops.size := (Array.getElem?_eq_some_iff.1 ho).1
        have hun' : ∀ j, listed.getD j true = false → bit m j = false := fun j hun => by
          rw [hrep.getD_true] at hun
          simp only [Bool.or_eq_false_iff] at hun
          exact hun.1
        have hap : ∀ j oj, ops[j]? = some oj → j ≠ i → listed.getD j true = false → (∀ e ∈ oj.after, Region.binds .any e = true → e.on ≠ i) → o.apart ops oj = true := fun j oj hj hne hun hno =>
          apartL_spec _ 0 h3 j oj (Nat.zero_le _) (by simpa using hj) hne (hun' j hun) hno
        obtain ⟨τ, k1, k2, k3, k4⟩ := guardK_ok hR hk
        cases hw : Region.wanted o (yielded ops a.tmps) with
        | true =>
          rw [hw] at k1
          simp only at k1
          split at k1
          · rename_i c v hpc
            simp only [Bool.cond_eq_ite] at k1
            split at k1
            · rename_i hc
              split at k1
              · rename_i ρ hp
                rcases h2 with h2 | ⟨h2, hsoft⟩
                · have hpc' : pureC P (ev P τ.fr) o.op = some (c, v) := by
                    unfold advC at hpc
                    split at hpc
                    · rename_i t x ho'; rw [ho'] at h2; cases h2
                    · exact hpc
                  obtain ⟨z, z1, z2⟩ := pureC_ok (P := P) (μ := μ) (A := A) (ρ := a.eval) (fun x v hx => ev_ok k2 hx) hpc' hc
                  exact wpAnyR_first (fun _ _ => True) (fun _ => trivial) (fun _ _ _ _ _ => trivial) ho (noSel_spec hsel) hQp n listed a w (fun j oj hj hne hun hno => ⟨hap j oj hj hne hun hno, fun _ _ _ => trivial⟩) hi
                    (fun w' _ => .inl ⟨hw, z2 w'⟩) (behind hlt k2 k3 k4 z1 hp k1)
                · unfold advC at hpc
                  split at hpc
                  · rename_i t x ho'
                    obtain ⟨p, hp1, hp2⟩ := Option.bind_eq_some_iff.1 hpc
                    obtain ⟨z, z1, ad, z2, z3⟩ := loadC_all (P := P) k2.env.cells hp2 hc (ev_ok k2 hp1)
                    refine wpAnyR_first (Ext fun _ _ => False) (fun w => Ext.refl _ w) (fun _ _ _ h k => h.trans k (fun _ _ hf => hf.elim)) ho (noSel_spec hsel) hQp n listed a w
                      (fun j oj hj hne hun hno => ⟨hap j oj hj hne hun hno, fun _ _ hs => hs (softL_spec _ 0 hsoft j oj (Nat.zero_le _) (by simpa using hj) hne (hun' j hun) hno)⟩) hi
                      (fun w' e => .inl ⟨hw, ?_⟩) (behind hlt k2 k3 k4 z1 hp k1)
                    simp [execOp, ho', Instr.loadAt, z2, Instr.sureAddr, z3 w' e]
                  · rename_i hno
                    unfold isLoad at h2
                    split at h2
                    · rename_i t x ho'; exact absurd ho' (hno t x)
                    · cases h2
              · cases k1
            · cases k1
          · cases k1
        | false =>
          rw [hw] at k1
          simp only at k1
          split at k1
          · rename_i ρ hp
            exact wpAnyR_first (fun _ _ => True) (fun _ => trivial) (fun _ _ _ _ _ => trivial) ho (noSel_spec hsel) hQp n listed a w (fun j oj hj hne hun hno => ⟨hap j oj hj hne hun hno, fun _ _ _ => trivial⟩) hi
              (fun w' _ => .inr ⟨hw, rfl⟩) (behind (v := .tu []) hlt k2 k3 k4 (by simp only [VR]; exact ⟨[], rfl, by simp [VRs]⟩) hp k1)
          · cases k1
      · -- every one that may be next
        replace hk := allL_spec _ _ hk
        refine ⟨fun h0 => ?_, fun i hi => ?_⟩
        · exfalso
          cases hr : rdy m ops.toList 0 with
          | nil => exact hne hr
          | cons x r =>
            have : x.1 ∈ Region.ready .any ops listed := (rdy_ready hrep x.1).2 ⟨x.2, by rw [hr]; exact List.mem_cons_self⟩
            rw [h0] at this
            cases this
        · obtain ⟨o, hmem⟩ := (rdy_ready hrep i).1 hi
          obtain ⟨_, g2, _⟩ := (rdy_mem _ _ _ _).1 hmem
          have ho : ops[i]? = some o := by simpa using g2
          have hlt : i < ops.size := (Array.getElem?_eq_some_iff.1 ho).1
          obtain ⟨τ, k1, k2, k3, k4⟩ := guardK_ok hR (hk (i, o) hmem)
          unfold wpOp
          simp only [ho]
          by_cases hw : Region.wanted o (yielded ops a.tmps) = true
          · rw [hw] at k1
            rw [if_pos hw]
            left
            refine runOp_ok hΓ k2 k1 fun a' w' hp hx => ⟨fun ⟨o', ho', hs'⟩ => hx (by cases ho'; exact hs'), ?_⟩
            obtain ⟨ρ, μ', A', p1, p2, p3, p4⟩ := hp
            refine ih _ _ (hrep.set hlt) p3 p1 fun a'' w'' hp' => hn a'' w'' ?_
            obtain ⟨ρ', μ'', A'', q1, q2, q3, q4⟩ := hp'
            exact ⟨ρ', μ'', A'', q1, q2.trans (p2.trans k4), q3, by rw [← k3]; exact p4.trans q4⟩
          · rw [Bool.not_eq_true] at hw
            rw [hw] at k1
            rw [if_neg (by simp [hw])]
            simp only at k1
            split at k1
            · rename_i ρ hp
              refine ⟨fun _ => Ext.refl _ _, ?_⟩
              exact behind (v := .tu []) hlt k2 k3 k4 (by simp only [VR]; exact ⟨[], rfl, by simp [VRs]⟩) hp k1
            · cases k1

theorem Leads.drew {μ : Mu} {A : Nat → Prop} {h : H} {w : World} (hE : Env P μ A h w) (d : Nat) : Leads P μ A h w μ A h { w with drawn := d } :=
  ⟨⟨hE.hr.drew d, hE.bound, hE.glob, hE.lo, hE.gw, hE.gf, hE.gs⟩, (Step.refl hE.hr).drew d, Nat.le_refl _⟩

theorem ahead_ok {so Γ : FuncId → Option CT} (hs : ∀ g F, so g = some F → CTokE P true g F) (hΓ : ∀ g F, Γ g = some F → CTok P g F) : ∀ g F, aheadOf so Γ g = some F → CTokE P (inT so g) g F := fun g F h => by
  unfold aheadOf at h
  unfold inT
  split at h
  · rename_i F' hF
    cases h
    exact hs g _ hF
  · exact (hΓ g F h).hard

theorem DR_ok (hm : P.follows .mixedOrders = true) {so : FuncId → Option CT} (hso : ∀ g F, so g = some F → CTokE P true g F) {Γ : FuncId → Option CT} (hΓ : ∀ g F, Γ g = some F → CTok P g F) : Dok P (DR P so Γ) := by
  intro id ops σ k μ A a w hk hR
  simp only [DR, Bool.cond_eq_ite, Array.toArray_toList] at hk
  split at hk
  · rename_i hsel
    have hL := Leads.drew hR.env (w.drawn + 1)
    refine wp_region_any hm ?_
    refine wpAnyR_any _ _ _ _ (dr_ok (ahead_ok hso hΓ) hsel (fun c a w h => by cases h.1) ops.size 0 _ (Rep.init ops) (σ := σ) ⟨hR.defers, hR.nt, hR.fr, hL.env⟩ (by simpa using hk) fun a' w' hp => ⟨rfl, ?_⟩)
    obtain ⟨ρ', μ'', A'', q1, q2, q3, q4⟩ := hp
    exact ⟨ρ', μ'', A'', q1, q2, q3, hL.trans q4⟩
  · cases hk

/-- The whole: a function's contract by the executor, so many calls deep. -/
theorem run_ok (hm : P.follows .mixedOrders = true) {so : FuncId → Option CT} (hso : ∀ g F, so g = some F → CTokE P true g F) {over : FuncId → Option CT} (hover : ∀ g F, over g = some F → CTok P g F) (fuel n : Nat) (g : FuncId) (F : CT) (h : calls P over (DR P so) fuel n g = some F) : CTok P g F :=
  calls_ok hover (fun _ hΓ => DR_ok hm hso hΓ) fuel n g F h

end
end Go.Proofs.YteionboacdkfjaaDoor.X
