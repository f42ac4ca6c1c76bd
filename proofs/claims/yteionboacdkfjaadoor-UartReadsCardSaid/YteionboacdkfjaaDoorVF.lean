/-
  'pinnacelaw11.UartWrites' and 'pinnacelaw11.UartReads': from the executor to a call; the arguments; the listed variable's cell.
-/
import Derived.Test.YteionboacdkfjaaDoorVE
import Derived.Test.YteionboacdkfjaaDoorYS
import Derived.Test.YteionboacdkfjaaDoorRows
import Derived.ChangeSame
import Derived.ChangeVars
import Derived.JoinedOf
import Derived.JoinedAt
import Derived.RowKit
import Derived.RowKitTokens
import Derived.LaidLaws
import Derived.LaidHandle
import Derived.Stop.Joined
namespace Go.Proofs.YteionboacdkfjaaDoor.X
open Go.ChangeShapes Go.WideShapes Go.ChangeAt Go.RowKit

/-- The walk's end: a statement's function, called, comes back with 'true', and nothing of what was there has changed. -/
theorem law_calls {so : FuncId → Option CT} (hso : ∀ g F, so g = some F → CTokE PP true g F) {over : FuncId → Option CT} (hover : ∀ g F, over g = some F → CTok PP g F) {fuel n : Nat} {f : FuncId} {args : List V} {vals : List Value} {μ : Mu} {A : Nat → Prop} {h : H} {W : World} (hv : VRs μ A args vals) (hE : Env PP μ A h W)
    (hk : bodyF PP (calls PP over (DR PP so) fuel n) (DR PP so (calls PP over (DR PP so) fuel n)) fuel f args h (fun v _ => vtrue v) = true) :
    Calls PP f vals.toArray W fun e W' => e = .returned (.bool true) ∧ ∃ h' μ' A', Leads PP μ A h W μ' A' h' W' := by
  have hΓ := fun g F hg => run_ok (P := PP) mixed hso hover fuel n g F hg
  refine (body_calls hΓ (DR_ok mixed hso hΓ) hv hE hk).2.mono fun e W' ⟨x, v, h', μ', A', h1, h2, h3, h4⟩ => ?_
  subst h1
  refine ⟨?_, h', μ', A', h4⟩
  unfold vtrue at h2
  split at h2
  · subst h2
    simp only [VR, SR] at h3
    rw [h3]
  · cases h2

theorem okWide_int {P : Program} {w : World} {r : Reach} {base : Nat} {t : TypeId} {k : IntKind} {v : Value} (ht : P.underlying t = some (.int k)) (h : Value.okWide P w r base t v) : ∃ n, v = .int k n := by
  simp only [Value.okWide, ht, Cell.okWide] at h
  cases v <;> simp_all [Cell.ok, IntKind.has]

theorem okWide_agg {P : Program} {w : World} {r : Reach} {base : Nat} {t : TypeId} {v : Value} (ht : isAggT P t = some true) (h : Value.okWide P w r base t v) : ∃ cs, v = .agg cs := by
  unfold isAggT at ht
  unfold Value.okWide at h
  split at h
  · obtain ⟨cs, h1, _⟩ := h; exact ⟨cs, h1⟩
  · obtain ⟨cs, h1, _⟩ := h; exact ⟨cs, h1⟩
  · split at ht <;> simp_all

def ks26 : List LK := List.replicate 16 (.i .u8) ++ (.i .i64 :: (List.replicate 16 (.i .u8) ++ [.i .i64, .i .u8, .i .u8, .i .u8, .i .u8, .i .u8, .i .u8, .b, .i .i64]))
theorem kinds26 : kindsT PP 40 26 = some ks26 := by kernel_rfl
theorem kinds5 : kindsT PP 40 5 = some [.i .u8] := by kernel_rfl
theorem kinds27 : kindsT PP 40 27 = some [.i .u32] := by kernel_rfl

noncomputable def usOf (c : Nat → Value) : Us :=
  ⟨⟨fun j => intOf (c j), intOf (c 16)⟩, ⟨fun j => intOf (c (17 + j)), intOf (c 33)⟩, intOf (c 34), intOf (c 35), intOf (c 36), intOf (c 37), intOf (c 38), intOf (c 39), boolOf (c 40), intOf (c 41)⟩

theorem ks26_get : ∀ j, j < 42 → ks26[j]? = some (if j = 16 ∨ j = 33 ∨ j = 41 then .i .i64 else if j = 40 then .b else .i .u8) := by decide

theorem encU_cat (u : Us) : ∀ j, j < 42 → cat (encU u) j = some (if j < 16 then .i .u8 (u.rx.b j) else if j = 16 then .i .i64 u.rx.n else if j < 33 then .i .u8 (u.tx.b (j - 17)) else if j = 33 then .i .i64 u.tx.n else
    if j = 34 then .i .u8 u.ier else if j = 35 then .i .u8 u.lcr else if j = 36 then .i .u8 u.mcr else if j = 37 then .i .u8 u.scr else if j = 38 then .i .u8 u.dll else if j = 39 then .i .u8 u.dlm else if j = 40 then .b u.ov else .i .i64 u.wt) := by
  intro j hj
  by_cases h1 : j < 16
  · simp only [encU, encF, List.cons_append, List.nil_append, cat, Seg.size, Seg.at, Bool.cond_eq_ite, blt_iff]
    rw [if_pos h1, if_pos h1]
  · by_cases h2 : 17 ≤ j ∧ j < 33
    · simp only [encU, encF, encT, List.cons_append, List.nil_append, cat, Seg.size, Seg.at, Bool.cond_eq_ite, blt_iff]
      rw [if_neg h1, if_neg (by omega), if_pos (by omega), if_neg h1, if_neg (by omega), if_pos (by omega)]
      congr 3
    · have : j = 16 ∨ j = 33 ∨ j = 34 ∨ j = 35 ∨ j = 36 ∨ j = 37 ∨ j = 38 ∨ j = 39 ∨ j = 40 ∨ j = 41 := by omega
      rcases this with rfl | rfl | rfl | rfl | rfl | rfl | rfl | rfl | rfl | rfl <;> rfl

theorem usOf_CR {μ : Mu} {A : Nat → Prop} {cs : List Value} (h : Cells ks26 cs) : CR μ A (encU (usOf fun j => cs.getD j undef)) cs.toArray := by
  have hlen : cs.length = 42 := by rw [← h.1]; rfl
  have hsz : csize (encU (usOf fun j => cs.getD j undef)) = 42 := rfl
  refine ⟨by rw [List.size_toArray, hlen, hsz], fun j s hj => ?_⟩
  have hlt : j < 42 := by rw [← hsz]; exact cat_lt _ _ _ hj
  rw [encU_cat _ j hlt] at hj
  obtain ⟨v, h1, h2⟩ := h.2 j _ (ks26_get j hlt)
  refine ⟨v, by rw [List.getElem?_toArray]; exact h1, ?_⟩
  have hd : cs.getD j undef = v := by rw [List.getD_eq_getElem?_getD, h1]; rfl
  have hint : ∀ k, Cell1 (.i k) v → SR μ A (.i k (intOf (cs.getD j undef))) v := fun k hk => by
    obtain ⟨n, rfl, _⟩ := hk
    rw [hd]
    rfl
  simp only [Option.some.injEq] at hj
  subst hj
  by_cases a1 : j < 16
  · rw [if_pos a1]
    rw [if_neg (by omega), if_neg (by omega)] at h2
    exact hint _ h2
  · by_cases a2 : 17 ≤ j ∧ j < 33
    · rw [if_neg a1, if_neg (by omega), if_pos (by omega)]
      rw [if_neg (by omega), if_neg (by omega)] at h2
      have := hint _ h2
      simp only [usOf]
      rw [show 17 + (j - 17) = j by omega]
      exact this
    · have : j = 16 ∨ j = 33 ∨ j = 34 ∨ j = 35 ∨ j = 36 ∨ j = 37 ∨ j = 38 ∨ j = 39 ∨ j = 40 ∨ j = 41 := by omega
      rcases this with rfl | rfl | rfl | rfl | rfl | rfl | rfl | rfl | rfl | rfl
      all_goals first
        | exact hint _ h2
        | (obtain ⟨x, rfl⟩ := h2
           show Value.bool x = Value.bool (boolOf _)
           rw [show (fun j => cs.getD j undef) 40 = Value.bool x from hd]
           rfl)

theorem has_u8 {n : Int} (h : (Lit.int .u8 n).wf = true) : byte n := by
  simp only [Lit.wf, Bool.and_eq_true, decide_eq_true_eq] at h
  have h1 : (0 : Int) ≤ n := h.1
  have h2 : n ≤ 255 := h.2
  exact ⟨h1, by omega⟩
theorem has_u32 {n : Int} (h : (Lit.int .u32 n).wf = true) : 0 ≤ n := by
  simp only [Lit.wf, Bool.and_eq_true, decide_eq_true_eq] at h
  have h1 : (0 : Int) ≤ n := h.1
  exact h1
theorem usOf_RU {cs : List Value} (h : Cells ks26 cs) : RU (usOf fun j => cs.getD j undef) := by
  have key : ∀ j, j < 42 → (¬ (j = 16 ∨ j = 33 ∨ j = 41)) → j ≠ 40 → byte (intOf (cs.getD j undef)) := fun j hj h1 h2 => by
    obtain ⟨v, e1, e2⟩ := h.2 j _ (ks26_get j hj)
    rw [if_neg h1, if_neg h2] at e2
    obtain ⟨n, rfl, hn⟩ := e2
    have hd : cs.getD j undef = .int .u8 n := by rw [List.getD_eq_getElem?_getD, e1]; rfl
    rw [hd]
    exact has_u8 (n := n) hn
  exact ⟨key 34 (by omega) (by omega) (by omega), key 35 (by omega) (by omega) (by omega), key 37 (by omega) (by omega) (by omega), key 36 (by omega) (by omega) (by omega)⟩

theorem cell_int {k : IntKind} {n : Int} (h : Cells [.i k] [Value.int k n]) : (Lit.int k n).wf = true := by
  obtain ⟨v, h1, m, h2, h3⟩ := h.2 0 _ rfl
  cases h1
  cases h2
  exact h3

/- The variable that the row lists. -/
theorem own : ownKnob PP.godebug = none := by kernel_rfl
theorem et0 : PP.globalNamed "errors.errorType" = some 0 := by kernel_rfl
theorem rt0 : (PP.cutTypes.find? (·.1 == "internal/reflectlite.rtype")).map (·.2) = some 80 := by kernel_rfl
theorem oneRow : ((List.range 123).filter fun t => PP.rowNamed t [101, 114, 114, 111, 114]) = [32] := by kernel_rfl
theorem typesN : PP.types.size = 123 := by kernel_rfl
theorem globN : nGlob PP = 1 := by kernel_rfl

/-- The variable's one cell. -/
theorem handle_of_laid {W : World} (h : laidMetH PP Rows.uartWritesRow.laid W) : W.cell? ⟨0, 0, none⟩ = some (.iface 80 (.agg #[.pointer (some ⟨1, 32, none⟩)])) := by
  have h' : laidMet PP [] W ∧ handlesMet PP Rows.uartWritesRow.laid W := h
  obtain ⟨name, u, ty, e1, e2, e3, e4, e5⟩ := h'.2 _ (List.mem_singleton.2 rfl)
  have en : name = [101, 114, 114, 111, 114] := (Option.some.inj e1).symm
  subst en
  obtain rfl := Option.some.inj (rt0.symm.trans e2)
  have hm : ty ∈ (List.range 123).filter fun t => PP.rowNamed t [101, 114, 114, 111, 114] := List.mem_filter.2 ⟨List.mem_range.2 (by rw [← typesN]; exact e3), e4⟩
  rw [oneRow] at hm
  obtain rfl := List.mem_singleton.1 hm
  have hh : typeHandle PP 32 = .pointer (some ⟨1, 32, none⟩) := by kernel_rfl
  rw [hh] at e5
  simpa using World.var?_cell et0 e5 0

theorem gw_of_laid {W : World} (h : laidMetH PP Rows.uartWritesRow.laid W) : GW PP W := by
  intro g c hg hc j s hs
  rw [globN] at hg
  obtain rfl : g = 0 := by omega
  have hc' : c = [.one (.rt 80 1 32)] := by
    have : glX PP 0 = some [.one (.rt 80 1 32)] := by kernel_rfl
    rw [this] at hc
    exact (Option.some.inj hc).symm
  subst hc'
  have hj : j < 1 := cat_lt _ _ _ hs
  obtain rfl : j = 0 := by omega
  have hs' : s = .rt 80 1 32 := by
    have : cat [.one (.rt 80 1 32)] 0 = some (.rt 80 1 32) := by kernel_rfl
    rw [this] at hs
    exact (Option.some.inj hs).symm
  subst hs'
  exact ⟨_, handle_of_laid h, fun μ A => rfl⟩

/-- The variable is there. -/
theorem size_of_laid {W : World} (h : laidMetH PP Rows.uartWritesRow.laid W) : nGlob PP ≤ W.heap.size := by
  rw [globN]
  have := handle_of_laid h
  apply Nat.lt_of_not_le
  intro hle
  simp [World.cell?, Array.getElem?_eq_none hle] at this

/-- A world that meets the condition: the settled one, the variable's cell laid. -/
noncomputable def laidWorld (os : Os) : World :=
  let w0 := World.holding PP os ⟨#[], #[], []⟩
  { w0 with heap := w0.heap.modify 0 fun
      | .cells _ t frozen => .cells #[.iface 80 (.agg #[.pointer (some ⟨1, 32, none⟩)])] t frozen
      | o => o }
theorem laidWorld_met (os : Os) (args : Array Value) : laidMetH PP Rows.uartWritesRow.laid ((laidWorld os).forCall (fun _ _ => 0) ⟨#[], args, []⟩).memory :=
  laidMetH_of_parts (laidMet_nil _ _) (by kernel_rfl)

def zeros26 : Value := .agg (((List.replicate 16 (Value.int .u8 0)) ++ (Value.int .i64 0 :: ((List.replicate 16 (Value.int .u8 0)) ++ [.int .i64 0, .int .u8 0, .int .u8 0, .int .u8 0, .int .u8 0, .int .u8 0, .int .u8 0, .bool false, .int .i64 0]))).toArray)

theorem agg26 : isAggT PP 26 = some true := by kernel_rfl
theorem und5 : PP.underlying 5 = some (.int .u8) := by kernel_rfl
theorem und27 : PP.underlying 27 = some (.int .u32) := by kernel_rfl
theorem und4 : PP.underlying 4 = some .bool := by kernel_rfl

end Go.Proofs.YteionboacdkfjaaDoor.X
