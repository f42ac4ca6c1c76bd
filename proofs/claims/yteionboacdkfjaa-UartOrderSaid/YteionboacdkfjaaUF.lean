/-
  'pinnacelaw11.UartTicks' answers true whatever the state and the byte, and leaves its arguments as they were.
-/
import Derived.Test.YteionboacdkfjaaUE
import Derived.Test.YteionboacdkfjaaXS
import Derived.Test.YteionboacdkfjaaRows
import Derived.JoinedOf
import Derived.JoinedAt
namespace Go.Proofs.Yteionboacdkfjaa.X
open Go.ChangeShapes Go.WideShapes Go.ChangeAt Go.RowKit

theorem okWide_int {P : Program} {w : World} {r : Reach} {base : Nat} {t : TypeId} {k : IntKind} {v : Value} (ht : P.underlying t = some (.int k)) (h : Value.okWide P w r base t v) : ∃ n, v = .int k n := by
  simp only [Value.okWide, ht, Cell.okWide] at h
  cases v <;> simp_all [Cell.ok, IntKind.has]

theorem okWide_agg {P : Program} {w : World} {r : Reach} {base : Nat} {t : TypeId} {v : Value} (ht : isAggT P t = some true) (h : Value.okWide P w r base t v) : ∃ cs, v = .agg cs := by
  unfold isAggT at ht
  unfold Value.okWide at h
  split at h
  · obtain ⟨cs, h1, _⟩ := h; exact ⟨cs, h1⟩
  · obtain ⟨cs, h1, _⟩ := h; exact ⟨cs, h1⟩
  · split at ht <;> simp_all

def ks26 : List LK := List.replicate 16 (.i .u8) ++ (.i .i64 :: (List.replicate 16 (.i .u8) ++ [.i .i64, .i .u8, .i .u8, .i .u8, .i .u8, .i .u8, .i .u8, .b, .i .i64]))
theorem kinds26 : kindsT Try.prog 40 26 = some ks26 := by kernel_rfl
theorem kinds5 : kindsT Try.prog 40 5 = some [.i .u8] := by kernel_rfl

def usOf (c : Nat → Value) : Us :=
  ⟨⟨fun j => intOf (c j), intOf (c 16)⟩, ⟨fun j => intOf (c (17 + j)), intOf (c 33)⟩, intOf (c 34), intOf (c 35), intOf (c 36), intOf (c 37), intOf (c 38), intOf (c 39), boolOf (c 40), intOf (c 41)⟩

theorem ks26_get : ∀ j, j < 42 → ks26[j]? = some (if j = 16 ∨ j = 33 ∨ j = 41 then .i .i64 else if j = 40 then .b else .i .u8) := by decide

theorem encU_cat (u : Us) : ∀ j, j < 42 → cat (encU u) j = some (if j < 16 then .i .u8 (u.rx.b j) else if j = 16 then .i .i64 u.rx.n else if j < 33 then .i .u8 (u.tx.b (j - 17)) else if j = 33 then .i .i64 u.tx.n else
    if j = 34 then .i .u8 u.ier else if j = 35 then .i .u8 u.lcr else if j = 36 then .i .u8 u.mcr else if j = 37 then .i .u8 u.scr else if j = 38 then .i .u8 u.dll else if j = 39 then .i .u8 u.dlm else if j = 40 then .b u.ov else .i .i64 u.wt) := by
  intro j hj
  by_cases h1 : j < 16
  · simp only [encU, encF, List.cons_append, List.nil_append, cat, Seg.size, Seg.at, Bool.cond_eq_ite, blt_iff]
    rw [if_pos h1, if_pos h1]
  · by_cases h2 : 17 ≤ j ∧ j < 33
    · simp only [encU, encF, encT, List.cons_append, List.nil_append, cat, Seg.size, Seg.at, Bool.cond_eq_ite, blt_iff]
      rw [if_neg h1, if_neg (by omega), if_pos (by omega), if_neg h1, if_neg (by omega), if_pos (by omega)]
      congr 3
    · have : j = 16 ∨ j = 33 ∨ j = 34 ∨ j = 35 ∨ j = 36 ∨ j = 37 ∨ j = 38 ∨ j = 39 ∨ j = 40 ∨ j = 41 := by omega
      rcases this with rfl | rfl | rfl | rfl | rfl | rfl | rfl | rfl | rfl | rfl <;> rfl

theorem usOf_CR {μ : Mu} {A : Nat → Prop} {cs : List Value} (h : Cells ks26 cs) : CR μ A (encU (usOf fun j => cs.getD j undef)) cs.toArray := by
  have hlen : cs.length = 42 := by rw [← h.1]; rfl
  have hsz : csize (encU (usOf fun j => cs.getD j undef)) = 42 := rfl
  refine ⟨by rw [List.size_toArray, hlen, hsz], fun j s hj => ?_⟩
  have hlt : j < 42 := by rw [← hsz]; exact cat_lt _ _ _ hj
  rw [encU_cat _ j hlt] at hj
  obtain ⟨v, h1, h2⟩ := h.2 j _ (ks26_get j hlt)
  refine ⟨v, by rw [List.getElem?_toArray]; exact h1, ?_⟩
  have hd : cs.getD j undef = v := by rw [List.getD_eq_getElem?_getD, h1]; rfl
  have hint : ∀ k, Cell1 (.i k) v → SR μ A (.i k (intOf (cs.getD j undef))) v := fun k hk => by
    obtain ⟨n, rfl, _⟩ := hk
    rw [hd]
    rfl
  simp only [Option.some.injEq] at hj
  subst hj
  by_cases a1 : j < 16
  · rw [if_pos a1]
    rw [if_neg (by omega), if_neg (by omega)] at h2
    exact hint _ h2
  · by_cases a2 : 17 ≤ j ∧ j < 33
    · rw [if_neg a1, if_neg (by omega), if_pos (by omega)]
      rw [if_neg (by omega), if_neg (by omega)] at h2
      have := hint _ h2
      simp only [usOf]
      rw [show 17 + (j - 17) = j by omega]
      exact this
    · have : j = 16 ∨ j = 33 ∨ j = 34 ∨ j = 35 ∨ j = 36 ∨ j = 37 ∨ j = 38 ∨ j = 39 ∨ j = 40 ∨ j = 41 := by omega
      rcases this with rfl | rfl | rfl | rfl | rfl | rfl | rfl | rfl | rfl | rfl
      all_goals first
        | exact hint _ h2
        | (obtain ⟨x, rfl⟩ := h2
           show Value.bool x = Value.bool (boolOf _)
           rw [show (fun j => cs.getD j undef) 40 = Value.bool x from hd]
           rfl)

theorem own : ownKnob Try.prog.godebug = none := by kernel_rfl
theorem agg26 : isAggT Try.prog 26 = some true := by kernel_rfl
theorem und5 : Try.prog.underlying 5 = some (.int .u8) := by kernel_rfl
theorem und4 : Try.prog.underlying 4 = some .bool := by kernel_rfl
theorem params3 : Try.f3.params.toList = [26, 5] := by kernel_rfl
theorem results3 : Try.f3.resultTypes = #[4] := by kernel_rfl

def zeros26 : Value := .agg (((List.replicate 16 (Value.int .u8 0)) ++ (Value.int .i64 0 :: ((List.replicate 16 (Value.int .u8 0)) ++ [.int .i64 0, .int .u8 0, .int .u8 0, .int .u8 0, .int .u8 0, .int .u8 0, .int .u8 0, .bool false, .int .i64 0]))).toArray)

set_option maxRecDepth 100000 in
theorem lifted (os : Os) (started : os.Started) (H : Type) (enc : TypeId × Value → H) :
    ReturnsInHanded {} Try.checked os 3 .any (Rows.uartTicksSpec.pre6 enc Try.prog Try.f3 Rows.uartTicksRow.domain false) (Rows.uartTicksSpec.post enc Try.prog Try.f3 Rows.uartTicksRow.apart Rows.uartTicksRow.fresh Rows.uartTicksRow.handsOn Rows.uartTicksRow.again) := by
  refine returnsInHanded_of_change (C := Try.checked) own started (by kernel_rfl) Try.func3
    (ChangeSpec.witness6 (enc := enc) (C := Try.checked) false ⟨#[], #[zeros26, .int .u8 0], []⟩ 8 (by kernel_rfl) (by kernel_rfl) (by kernel_rfl) (by kernel_rfl)) ?_
  intro W base args ds gs before hval0 hW _ _
  have hval : ∀ (j : Nat) t v, Try.f3.params.toList[j]? = some t → args[j]? = some v → Value.okWide Try.prog W .any base t v := fun j t v h1 h2 => hval0 j t v (by simpa using h1) h2
  have hW' := hW
  obtain ⟨p, q, hA0, hV, rfl, _, _⟩ := hW
  have hA : DataW.TrodAll enc Try.prog W 0 (fun _ => true) true Try.f3.params.toList args.toList ds p := hA0
  rw [params3] at hA hval
  obtain ⟨v0, v1, d0, d1, p0, p1, rfl, rfl, rfl, h0, h1⟩ := trodAll_two hA
  obtain ⟨rfl, rfl⟩ := trodVars_none hV
  obtain ⟨cs, rfl⟩ := okWide_agg agg26 (hval 0 26 v0 rfl rfl)
  obtain ⟨n, rfl⟩ := okWide_int und5 (hval 1 5 v1 rfl rfl)
  obtain ⟨rfl, hc, hr0⟩ := plain_of kinds26 h0
  obtain ⟨rfl, _, hr1⟩ := plain_of kinds5 h1
  simp only [List.append_nil] at hW'
  have hargs : VRs (fun i => ⟨i, 0, 0⟩) (fun i => i < nGlob Try.prog) [.ag (encU (usOf fun j => cs.toList.getD j undef)), .sc (.i .u8 n)] [.agg cs, .int .u8 n] := by
    simp only [VRs, VR, SR, and_true]
    have := usOf_CR (μ := fun i => ⟨i, 0, 0⟩) (A := fun i => i < nGlob Try.prog) hc
    exact ⟨cs, rfl, by simpa [Value.cells] using this⟩
  have hcalls := law_calls ov4_ok (fuel := 18) (n := 3) (f := 3) hargs (envN Try.prog W) (by
    have := ticks_run (usOf fun j => cs.toList.getD j undef) n
    rw [ticks_true] at this
    exact this)
  refine hcalls.mono fun e W' ⟨he, h', μ', A', hL⟩ => ?_
  subst he
  have hg : Grown W W' := (hL.step.ext.mono (G := fun _ _ => False) (fun _ _ hf => footN hf)).grown
  exact ⟨_, rfl, post_of_same (pa := []) (pv := []) hW' (fun b sp hd => by rw [results3]; exact trodAll_mk1 (shut_bool und4 true)) (fun sp _ => by
    have := trodAll_mk2 (hr0 W' 0 sp) (hr1 W' 0 sp)
    rw [params3]
    exact this) (fun _ _ => rfl) rfl (hg.frame _) hg.2.1 (ok_one results3 rfl (okWide_bool_mk und4 true))⟩

theorem uartTicks_holds' : Rows.UartTicksSaid :=
  OpenClaim.holds_of_wide 3 Try.f3 rfl rfl rfl rfl rfl rfl rfl ⟨rfl, rfl, rfl, rfl, rfl⟩ rfl rfl rfl rfl rfl (by kernel_rfl) Try.func3 (by kernel_rfl)
    (of_decide_eq_true (by kernel_rfl)) (by unfold Func.isWrapper; rw [if_neg (of_decide_eq_false (by kernel_rfl))]; exact ⟨rfl, rfl⟩)
    (fun os started H enc _ => lifted os started H enc)

end Go.Proofs.Yteionboacdkfjaa.X

namespace Go.Proofs.Yteionboacdkfjaa
theorem uartTicks_holds : Rows.UartTicksSaid := X.uartTicks_holds'
#print axioms uartTicks_holds
end Go.Proofs.Yteionboacdkfjaa
