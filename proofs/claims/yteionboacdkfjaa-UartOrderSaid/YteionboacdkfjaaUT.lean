/-
  'pinnacelaw11.UartOrder' answers true whatever comes, is written, read and ticks, and leaves its argument as it was.
-/
import Derived.Test.YteionboacdkfjaaUF
import Derived.Test.YteionboacdkfjaaUS
namespace Go.Proofs.Yteionboacdkfjaa.X
open Go.ChangeShapes Go.WideShapes Go.ChangeAt Go.RowKit

set_option maxRecDepth 100000 in
theorem order_run (L cp : Nat) (k c : Nat → Int) : orderX L cp k c = cond (Nat.beq L L && true) (cond (propB (InvL (mkg k c) ⟨L, cp, mkg k c, u0, none, none, false, 0⟩)) true false) false := by kernel_rfl
set_option maxRecDepth 100000 in
theorem order_nil : go ov5 18 3 5 [.sc (.sl none 0 (.k 0))] vtrue = true := by kernel_rfl

theorem order_true (L cp : Nat) (k c : Nat → Int) : orderX L cp k c = true := by
  rw [order_run, propB_iff.2, bqS]
  · rfl
  · exact ⟨⟨(by decide : okU u0 = true), (by decide : latch u0 = false), rfl, rfl, fun j hj => by simp [rl] at hj, fun j hj => by simp [rl] at hj, rfl⟩, (by decide : (0 : Int) ≤ 0), rfl⟩

theorem kinds53 : kindsT Try.prog 40 53 = some [.i .i64, .i .u8] := by kernel_rfl
theorem und49 : Try.prog.underlying 49 = some (.slice 53) := by kernel_rfl
theorem params5 : Try.f5.params.toList = [49] := by kernel_rfl
theorem results5 : Try.f5.resultTypes = #[4] := by kernel_rfl
theorem laid : laidOutB Try.prog = true := by kernel_rfl
theorem read49 : Try.prog.readableRec 49 = true ∧ 49 < Try.prog.types.size := ⟨by kernel_rfl, of_decide_eq_true (by kernel_rfl)⟩

/-- The call, by the executor: it answers true and writes nothing of what was there. -/
theorem order_calls {W : World} {v : Value} (hv : v = .slice none 0 0 ∨ ∃ b o len cap, v = .slice (some ⟨b, o, none⟩) len cap ∧ len ≤ cap ∧ cap ≤ maxLen ∧ ∀ i, i < len → ∀ j k, ([.i .i64, .i .u8] : List LK)[j]? = some k → W.cell? ⟨b, o + (i * 2 + j), none⟩ = some (cellAt W b o (i * 2 + j)) ∧ Cell1 k (cellAt W b o (i * 2 + j))) :
    Calls Try.prog 5 #[v] W fun e W' => e = .returned (.bool true) ∧ Ext (fun _ _ => False) W W' := by
  have fin : ∀ {x : Value} {v : V} {μ : Mu} {A : Nat → Prop}, vtrue v = true → VR μ A v x → x = .bool true := fun {x v μ A} h1 h2 => by
    unfold vtrue at h1
    split at h1
    · subst h1
      simpa only [VR, SR] using h2
    · cases h1
  rcases hv with rfl | ⟨b, o, len, cap, rfl, hl, hm, hc⟩
  · refine (law_calls ov5_ok (fuel := 18) (n := 2) (f := 5) (args := [.sc (.sl none 0 (.k 0))]) (vals := [.slice none 0 0]) (by simp [VRs, VR, SR]) (envN Try.prog W) order_nil).mono fun e W' ⟨h1, h', μ', A', hL⟩ => ⟨h1, hL.step.ext.mono (fun _ _ hf => footN hf)⟩
  · let kf : Nat → Int := fun i => intOf (cellAt W b o (i * 2))
    let cf : Nat → Int := fun i => intOf (cellAt W b o (i * 2 + 1))
    let μ : Mu := fun _ => ⟨b, o, 0⟩
    let A : Nat → Prop := fun i => i < 1
    have hget : ∀ i bl, (orderH len kf cf).m.get i = some bl → i = 0 ∧ bl = ⟨[.rows len 2 (mkg kf cf)], false, true⟩ := fun i bl h => by
      simp only [orderH, T.get_set, T.get_l] at h
      split at h
      · rename_i e; cases h; exact ⟨e, rfl⟩
      · cases h
    have hr : HR μ A (orderH len kf cf) W := hr_ro (fun i bl h => by obtain ⟨rfl, rfl⟩ := hget i bl h; exact ⟨by show 0 < 1; omega, rfl, rfl⟩) (fun i bl h j s hj => by
      obtain ⟨rfl, rfl⟩ := hget i bl h
      have hlt := cat_lt _ _ _ hj
      simp only [csize, Seg.size, Nat.add_zero] at hlt
      simp only [cat, Seg.size, Seg.at, Bool.cond_eq_ite, blt_iff] at hj
      rw [if_pos hlt] at hj
      cases hj
      have hd : j / 2 * 2 + j % 2 = j := by omega
      have h01 : j % 2 = 0 ∨ j % 2 = 1 := by omega
      show ∃ x, W.cell? ⟨b, o + j, none⟩ = some x ∧ _
      rcases h01 with e | e
      · obtain ⟨h1, n, h2, _⟩ := hc (j / 2) (by omega) 0 _ rfl
        have e2 : j / 2 * 2 + 0 = j := by omega
        rw [e2] at h1 h2
        refine ⟨_, h1, ?_⟩
        rw [e]
        show SR μ A (.i .i64 (intOf (cellAt W b o (j / 2 * 2)))) _
        rw [show j / 2 * 2 = j by omega, h2]
        rfl
      · obtain ⟨h1, n, h2, _⟩ := hc (j / 2) (by omega) 1 _ rfl
        have e2 : j / 2 * 2 + 1 = j := by omega
        rw [e2] at h1 h2
        refine ⟨_, h1, ?_⟩
        rw [e]
        show SR μ A (.i .u8 (intOf (cellAt W b o (j / 2 * 2 + 1)))) _
        rw [e2, h2]
        rfl)
    have hE : Env Try.prog μ A (orderH len kf cf) W := ⟨hr, fun i hi => hi, fun g hg => by rw [noGlob] at hg; omega, Nat.zero_le _⟩
    have hΓ := fun g F hg => run_ok (P := Try.prog) mixed ov5_ok 18 3 g F hg
    have hargs : VRs μ A [.sc (.sl (some ⟨0, 0, none⟩) len (.k cap))] [.slice (some ⟨b, o, none⟩) len cap] := by
      simp only [VRs, VR, SR, and_true]
      exact ⟨by show 0 < 1; omega, hl, _, rfl, .inr (by simp [AA.conc, AA.real, μ])⟩
    refine (bodyL_calls hΓ (DR_ok mixed hΓ) (order_loops kf cf) hargs hE rfl (fun i hi => by omega) (order_true len cap kf cf)).2.mono fun e W' ⟨x, v, h', μ', A', g1, g2, g3, g4, g5, g6, g7⟩ => ?_
    subst g1
    rw [fin g2 g3]
    exact ⟨rfl, g5.mono (fun _ _ hf => foot_ro (fun i bl h => by obtain ⟨rfl, rfl⟩ := hget i bl h; rfl) hf)⟩

set_option maxRecDepth 100000 in
theorem lifted5 (os : Os) (started : os.Started) (H : Type) (enc : TypeId × Value → H) :
    ReturnsInHanded {} Try.checked os 5 .any (Rows.uartOrderSpec.pre6 enc Try.prog Try.f5 Rows.uartOrderRow.domain false) (Rows.uartOrderSpec.post enc Try.prog Try.f5 Rows.uartOrderRow.apart Rows.uartOrderRow.fresh Rows.uartOrderRow.handsOn Rows.uartOrderRow.again) := by
  refine returnsInHanded_of_change (C := Try.checked) own started (by kernel_rfl) Try.func5
    (ChangeSpec.witness6 (enc := enc) (C := Try.checked) false ⟨#[], #[.slice none 0 0], []⟩ 8 (by kernel_rfl) (by kernel_rfl) (by kernel_rfl) (by kernel_rfl)) ?_
  intro W base args ds gs before hval0 hW _ _
  have hval : ∀ (j : Nat) t v, Try.f5.params.toList[j]? = some t → args[j]? = some v → Value.okWide Try.prog W .any base t v := fun j t v h1 h2 => hval0 j t v (by simpa using h1) h2
  have hW' := hW
  have hlt := hW.lt
  obtain ⟨p, q, hA0, hV, hb, _, _⟩ := hW
  have hA : DataW.TrodAll enc Try.prog W 0 (fun _ => true) true Try.f5.params.toList args.toList ds p := hA0
  rw [params5] at hA hval
  obtain ⟨rfl, rfl⟩ := trodVars_none hV
  rw [List.append_nil] at hb
  subst hb
  have hA2 := hA
  obtain ⟨v0, d0, rfl, rfl, h0⟩ := trodAll_one hA
  refine (order_calls (slice_of und49 kinds53 (hval 0 49 v0 rfl rfl) h0)).mono fun e W' ⟨he, hext⟩ => ?_
  subst he
  have hg : Grown W W' := hext.grown
  exact ⟨_, rfl, post_of_same (pv := []) hW' (fun b sp hd => by rw [results5]; exact trodAll_mk1 (shut_bool und4 true)) (fun sp hs => by
    rw [params5]
    exact args_same laid hext (fun t ht => by rw [List.mem_singleton] at ht; subst ht; exact read49) hA2 (fun x hx => hlt x hx) hs) (fun _ _ => rfl) (by simp) (hg.frame _) hg.2.1 (ok_one results5 rfl (okWide_bool_mk und4 true))⟩

theorem uartOrder_holds' : Rows.UartOrderSaid :=
  OpenClaim.holds_of_wide 5 Try.f5 rfl rfl rfl rfl rfl rfl rfl ⟨rfl, rfl, rfl, rfl, rfl⟩ rfl rfl rfl rfl rfl (by kernel_rfl) Try.func5 (by kernel_rfl)
    (of_decide_eq_true (by kernel_rfl)) (by unfold Func.isWrapper; rw [if_neg (of_decide_eq_false (by kernel_rfl))]; exact ⟨rfl, rfl⟩)
    (fun os started H enc _ => lifted5 os started H enc)

end Go.Proofs.Yteionboacdkfjaa.X

namespace Go.Proofs.Yteionboacdkfjaa
theorem uartOrder_holds : Rows.UartOrderSaid := X.uartOrder_holds'
#print axioms uartOrder_holds
end Go.Proofs.Yteionboacdkfjaa
