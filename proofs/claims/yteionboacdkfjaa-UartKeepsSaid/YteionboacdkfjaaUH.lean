/-
  'pinnacelaw11.UartKeeps' answers true whatever the state, the bytes and the number, and leaves its arguments as they were.
-/
import Derived.Test.YteionboacdkfjaaUF
import Derived.Test.YteionboacdkfjaaUG
namespace Go.Proofs.Yteionboacdkfjaa.X
open Go.ChangeShapes Go.WideShapes Go.ChangeAt Go.RowKit

theorem kinds39 : kindsT Try.prog 40 39 = some [.i .u8, .i .u8] := by kernel_rfl
theorem kinds3 : kindsT Try.prog 40 3 = some [.i .i64] := by kernel_rfl
theorem agg39 : isAggT Try.prog 39 = some true := by kernel_rfl
theorem und3 : Try.prog.underlying 3 = some (.int .i64) := by kernel_rfl
theorem params4 : Try.f4.params.toList = [26, 39, 3] := by kernel_rfl
theorem results4 : Try.f4.resultTypes = #[4] := by kernel_rfl

theorem pair_CR {μ : Mu} {A : Nat → Prop} {cs : List Value} (h : Cells [.i .u8, .i .u8] cs) : CR μ A [.run .u8 2 fun j => intOf (cs.getD j undef)] cs.toArray := by
  have hlen : cs.length = 2 := by rw [← h.1]; rfl
  refine ⟨by rw [List.size_toArray, hlen]; rfl, fun j s hj => ?_⟩
  have hlt : j < 2 := cat_lt _ _ _ hj
  have hc : cat [Seg.run .u8 2 fun j => intOf (cs.getD j undef)] j = some (.i .u8 (intOf (cs.getD j undef))) := by
    simp only [cat, Seg.size, Seg.at, Bool.cond_eq_ite, blt_iff]
    rw [if_pos hlt]
  rw [hc] at hj
  cases hj
  have hk : ([.i .u8, .i .u8] : List LK)[j]? = some (.i .u8) := by
    have : j = 0 ∨ j = 1 := by omega
    rcases this with rfl | rfl <;> rfl
  obtain ⟨v, h1, n, rfl, _⟩ := h.2 j _ hk
  refine ⟨_, by rw [List.getElem?_toArray]; exact h1, ?_⟩
  rw [List.getD_eq_getElem?_getD, h1]
  rfl

set_option maxRecDepth 100000 in
theorem lifted4 (os : Os) (started : os.Started) (H : Type) (enc : TypeId × Value → H) :
    ReturnsInHanded {} Try.checked os 4 .any (Rows.uartKeepsSpec.pre6 enc Try.prog Try.f4 Rows.uartKeepsRow.domain false) (Rows.uartKeepsSpec.post enc Try.prog Try.f4 Rows.uartKeepsRow.apart Rows.uartKeepsRow.fresh Rows.uartKeepsRow.handsOn Rows.uartKeepsRow.again) := by
  refine returnsInHanded_of_change (C := Try.checked) own started (by kernel_rfl) Try.func4
    (ChangeSpec.witness6 (enc := enc) (C := Try.checked) false ⟨#[], #[zeros26, .agg #[.int .u8 0, .int .u8 0], .int .i64 0], []⟩ 8 (by kernel_rfl) (by kernel_rfl) (by kernel_rfl) (by kernel_rfl)) ?_
  intro W base args ds gs before hval0 hW _ _
  have hval : ∀ (j : Nat) t v, Try.f4.params.toList[j]? = some t → args[j]? = some v → Value.okWide Try.prog W .any base t v := fun j t v h1 h2 => hval0 j t v (by simpa using h1) h2
  have hW' := hW
  obtain ⟨p, q, hA0, hV, rfl, _, _⟩ := hW
  have hA : DataW.TrodAll enc Try.prog W 0 (fun _ => true) true Try.f4.params.toList args.toList ds p := hA0
  rw [params4] at hA hval
  obtain ⟨v0, v1, v2, d0, d1, d2, p0, p1, p2, rfl, rfl, rfl, h0, h1, h2⟩ := trodAll_three hA
  obtain ⟨rfl, rfl⟩ := trodVars_none hV
  obtain ⟨cs, rfl⟩ := okWide_agg agg26 (hval 0 26 v0 rfl rfl)
  obtain ⟨cs1, rfl⟩ := okWide_agg agg39 (hval 1 39 v1 rfl rfl)
  obtain ⟨n, rfl⟩ := okWide_int und3 (hval 2 3 v2 rfl rfl)
  obtain ⟨rfl, hc, hr0⟩ := plain_of kinds26 h0
  obtain ⟨rfl, hc1, hr1⟩ := plain_of kinds39 h1
  obtain ⟨rfl, _, hr2⟩ := plain_of kinds3 h2
  simp only [List.append_nil] at hW'
  have hargs : VRs (fun i => ⟨i, 0, 0⟩) (fun i => i < nGlob Try.prog) [.ag (encU (usOf fun j => cs.toList.getD j undef)), .ag [.run .u8 2 fun j => intOf (cs1.toList.getD j undef)], .sc (.i .i64 n)] [.agg cs, .agg cs1, .int .i64 n] := by
    simp only [VRs, VR, SR, and_true]
    have h3 := usOf_CR (μ := fun i => ⟨i, 0, 0⟩) (A := fun i => i < nGlob Try.prog) hc
    have h4 := pair_CR (μ := fun i => ⟨i, 0, 0⟩) (A := fun i => i < nGlob Try.prog) hc1
    exact ⟨⟨cs, rfl, by simpa [Value.cells] using h3⟩, cs1, rfl, by simpa [Value.cells] using h4⟩
  have hcalls := law_calls ov4_ok (fuel := 18) (n := 3) (f := 4) hargs (envN Try.prog W) (by
    have := keeps_run (usOf fun j => cs.toList.getD j undef) (fun j => intOf (cs1.toList.getD j undef)) n
    rw [keeps_true] at this
    exact this)
  refine hcalls.mono fun e W' ⟨he, h', μ', A', hL⟩ => ?_
  subst he
  have hg : Grown W W' := (hL.step.ext.mono (G := fun _ _ => False) (fun _ _ hf => footN hf)).grown
  exact ⟨_, rfl, post_of_same (pa := []) (pv := []) hW' (fun b sp hd => by rw [results4]; exact trodAll_mk1 (shut_bool und4 true)) (fun sp _ => by
    have := trodAll_mk3 (hr0 W' 0 sp) (hr1 W' 0 sp) (hr2 W' 0 sp)
    rw [params4]
    exact this) (fun _ _ => rfl) rfl (hg.frame _) hg.2.1 (ok_one results4 rfl (okWide_bool_mk und4 true))⟩

theorem uartKeeps_holds' : Rows.UartKeepsSaid :=
  OpenClaim.holds_of_wide 4 Try.f4 rfl rfl rfl rfl rfl rfl rfl ⟨rfl, rfl, rfl, rfl, rfl⟩ rfl rfl rfl rfl rfl (by kernel_rfl) Try.func4 (by kernel_rfl)
    (of_decide_eq_true (by kernel_rfl)) (by unfold Func.isWrapper; rw [if_neg (of_decide_eq_false (by kernel_rfl))]; exact ⟨rfl, rfl⟩)
    (fun os started H enc _ => lifted4 os started H enc)

end Go.Proofs.Yteionboacdkfjaa.X

namespace Go.Proofs.Yteionboacdkfjaa
theorem uartKeeps_holds : Rows.UartKeepsSaid := X.uartKeeps_holds'
#print axioms uartKeeps_holds
end Go.Proofs.Yteionboacdkfjaa
