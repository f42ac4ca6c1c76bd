/-
  'pinnacelaw11.UartReads' answers true whatever the state, the register, and leaves its arguments as they were; its listed variable is tied to the program's text.
-/
import Derived.Test.YteionboacdkfjaaDoorVF
import Derived.Test.YteionboacdkfjaaDoorTie
import Derived.Test.YteionboacdkfjaaDoorCards
import Derived.SevenTiedAt
namespace Go.Proofs.YteionboacdkfjaaDoor.X
open Go.ChangeShapes Go.WideShapes Go.ChangeAt Go.RowKit

theorem params4 : Tryd.f4.params.toList = [26, 27] := by kernel_rfl
theorem results4 : Tryd.f4.resultTypes = #[4] := by kernel_rfl

set_option maxRecDepth 100000 in
theorem reads_lifted (os : Os) (started : os.Started) (H : Type) (enc : TypeId × Value → H) :
    ReturnsInHanded {} Tryd.checked os 4 .any (fun w args => (Rows.uartReadsSpec.pre enc PP Tryd.f4 [] false w args ∧ laidMetH PP Rows.uartWritesRow.laid w) ∧ sizedMet enc PP Tryd.f4 (OpenSpec.ofChange Rows.uartReadsSpec) false w args)
      (Rows.uartReadsSpec.post enc PP Tryd.f4 Rows.uartReadsRow.apart Rows.uartReadsRow.fresh Rows.uartReadsRow.handsOn Rows.uartReadsRow.again) := by
  refine returnsInHanded_of_change_and (C := Tryd.checked) (X := fun w _ => laidMetH PP Rows.uartWritesRow.laid w) (fun _ _ _ hh h => h.of_heap hh) own started (by kernel_rfl) Tryd.func4
    (ChangeSpec.witness_at (enc := enc) (C := Tryd.checked) (os := os) (X := fun w _ => laidMetH PP Rows.uartWritesRow.laid w) false (laidWorld os) #[zeros26, .int .u32 0] 8 rfl (by kernel_rfl) (by kernel_rfl) (by kernel_rfl) (by kernel_rfl) (by kernel_rfl) (laidWorld_met os _)) ?_
  intro W base args ds gs before hval0 hW _ _ hL _
  have hval : ∀ (j : Nat) t v, Tryd.f4.params.toList[j]? = some t → args[j]? = some v → Value.okWide PP W .any base t v := fun j t v h1 h2 => hval0 j t v (by simpa using h1) h2
  have hW' := hW
  obtain ⟨p, q, hA0, hV, rfl, _, _⟩ := hW
  have hA : DataW.TrodAll enc PP W 0 (fun _ => true) true Tryd.f4.params.toList args.toList ds p := hA0
  rw [params4] at hA hval
  obtain ⟨v0, v1, d0, d1, p0, p1, rfl, rfl, rfl, h0, h1⟩ := trodAll_two hA
  obtain ⟨rfl, rfl⟩ := trodVars_none hV
  obtain ⟨cs, rfl⟩ := okWide_agg agg26 (hval 0 26 v0 rfl rfl)
  obtain ⟨n, rfl⟩ := okWide_int und27 (hval 1 27 v1 rfl rfl)
  obtain ⟨rfl, hc, hr0⟩ := plain_of kinds26 h0
  obtain ⟨rfl, hn, hr1⟩ := plain_of kinds27 h1
  simp only [List.append_nil] at hW'
  have hargs : VRs (fun i => ⟨i, 0, 0⟩) (fun i => i < nGlob PP) [.ag (encU (usOf fun j => cs.toList.getD j undef)), .sc (.i .u32 n)] [.agg cs, .int .u32 n] := by
    simp only [VRs, VR, SR, and_true]
    have := usOf_CR (μ := fun i => ⟨i, 0, 0⟩) (A := fun i => i < nGlob PP) hc
    exact ⟨cs, rfl, by simpa [Value.cells] using this⟩
  have hcalls := law_calls so2_ok ov5_ok (fuel := 18) (n := 4) (f := 4) hargs (envN PP W (gw_of_laid hL) (size_of_laid hL)) (by
    have := reads_true (usOf_RU hc) (has_u32 (cell_int hn))
    exact this)
  refine hcalls.mono fun e W' ⟨he, h', μ', A', hL'⟩ => ?_
  subst he
  have hg : Grown W W' := (hL'.step.ext.mono (G := fun _ _ => False) (fun _ _ hf => footN hf)).grown
  exact ⟨_, rfl, post_of_same (pa := []) (pv := []) hW' (fun b sp hd => by rw [results4]; exact trodAll_mk1 (shut_bool und4 true)) (fun sp _ => by
    have := trodAll_mk2 (hr0 W' 0 sp) (hr1 W' 0 sp)
    rw [params4]
    exact this) (fun _ _ => rfl) rfl (hg.frame _) hg.2.1 (ok_one results4 rfl (okWide_bool_mk und4 true))⟩

theorem reads_row : Rows.UartReadsSaid :=
  OpenClaim.holds_of_wide 4 Tryd.f4 rfl rfl rfl rfl rfl rfl rfl ⟨rfl, rfl, rfl, rfl, rfl⟩ rfl rfl rfl rfl rfl (by kernel_rfl) Tryd.func4 (by kernel_rfl)
    (of_decide_eq_true (by kernel_rfl)) (by unfold Func.isWrapper; rw [if_neg (of_decide_eq_false (by kernel_rfl))]; exact ⟨rfl, rfl⟩)
    (fun os started H enc _ => reads_lifted os started H enc)

theorem reads_card : Rows.UartReadsCardSaid :=
  Claim7.holds_tied_plain_at .later [] [.handle] true (true, "43040849437e10e4d02b4f82fbc5e445fb8f43072902f4499bb9ed81ff1884c8") true
    reads_row (fun _ h => by cases h) (by kernel_rfl) (fun _ h => by cases h) uartReads_row_tie rfl ⟨rfl, rfl⟩ (by kernel_rfl) rfl
    (fun f fn hf hfn => by
      obtain rfl : f = 4 := Option.some.inj ((show PP.funcNamed "pinnace/pinnacelaw11.UartReads" = some 4 by kernel_rfl).symm.trans hf) |>.symm
      obtain rfl : fn = Tryd.f4 := (Option.some.inj (Tryd.func4.symm.trans hfn)).symm
      exact ⟨by kernel_rfl, fun j t ht => by
        rw [← Array.getElem?_toList, params4] at ht
        have hs : ∀ t ∈ ([26, 27] : List TypeId), PP.wantsStandIn t = false := fun t h => by
          simp only [List.mem_cons, List.not_mem_nil, or_false] at h
          rcases h with rfl | rfl <;> kernel_rfl
        exact hs t (List.mem_of_getElem? ht)⟩)
    (by kernel_rfl)

end Go.Proofs.YteionboacdkfjaaDoor.X

namespace Go.Proofs.YteionboacdkfjaaDoor
theorem uartReads_holds : Rows.UartReadsCardSaid := X.reads_card
#print axioms uartReads_holds
end Go.Proofs.YteionboacdkfjaaDoor
