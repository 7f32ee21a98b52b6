/- FormatsNames' row holds: for every number and every text the call returns true, and what it was handed reads as before. No condition but the row's own, on what the listed tables hold. -/
import Derived.Test.YtplgnjpeikamhaaGreatDoorRows
import Derived.Test.YtplgnjpeikamhaaGreatDoorWf
import Derived.ProofKit
import Derived.IntWalk
import Derived.ChangeMaps5
import Derived.OpenShut
import Derived.LaidMore
import Derived.Lay
import Derived.SevenTiedAt
import Derived.Stop.Joined
set_option maxRecDepth 100000
namespace Go.Proofs.YtplgnjpeikamhaaGreatDoor
open Go Xec Go.ChangeShapes Go.WideShapes Go.ChangeAt Go.RowKit

theorem keptBut_keep {W W' : World} (hk : Keep (fun b => b < W.heap.size) W W') (may : MemPlace → Prop) : W.keptBut W' may := by
  refine ⟨hk.os, hk.output, fun i hi => ?_⟩
  rw [hk.blk i hi]
  cases W.heap[i]? with
  | none => rfl
  | some ob => cases ob <;> first | rfl | simp

theorem wrap_of_wf {n : Int} (h : (Lit.int .i64 n).wf = true) : IntKind.i64.wrap n = n := by
  simp only [Lit.wf, Bool.and_eq_true, decide_eq_true_eq] at h
  exact Go.IntWalk.i64_in n h

theorem own : ownKnob Tryz.prog.godebug = none := by kernel_rfl
theorem noInit : Tryz.prog.inits.idxOf? 3 = none := by kernel_rfl
theorem plainLaid (w : World) : laidMetH Tryz.prog Rows.formatsNamesRow.laid w = laidMet Tryz.prog Rows.formatsNamesRow.laid w := MakeChecks.laidMetH_plain _ _ _ (by kernel_rfl)
theorem startShaped (os : Os) : ((World.laidAll Tryz.prog os Rows.formatsNamesRow.laid).forCall (fun _ _ => 0) ⟨#[], #[.int .i64 0, .string .empty], []⟩).Shaped Tryz.prog :=
  World.shaped_of_ZipB (by kernel_rfl) (by kernel_rfl)
theorem startMet (os : Os) : laidMetH Tryz.prog Rows.formatsNamesRow.laid ((World.laidAll Tryz.prog os Rows.formatsNamesRow.laid).forCall (fun _ _ => 0) ⟨#[], #[.int .i64 0, .string .empty], []⟩).memory := by
  rw [plainLaid]
  exact laidMet_laidAll _ (by kernel_rfl) (by kernel_rfl)
theorem startOk (os : Os) : Input.okWideB Tryz.prog ((World.laidAll Tryz.prog os Rows.formatsNamesRow.laid).forCall (fun _ _ => 0) ⟨#[], #[.int .i64 0, .string .empty], []⟩) 3 ⟨#[], #[.int .i64 0, .string .empty], []⟩ = true := by kernel_rfl

theorem formatsNames_lifted (os : Os) (started : os.Started) (H : Type) (enc : TypeId × Value → H) :
    ReturnsInHanded {} Tryz.checked os 3 .any (fun w args => (Rows.formatsNamesSpec.pre enc Tryz.prog Tryz.f3 Rows.formatsNamesRow.domain false w args ∧ laidMetH Tryz.prog Rows.formatsNamesRow.laid w) ∧ sizedMet enc Tryz.prog Tryz.f3 (OpenSpec.ofChange Rows.formatsNamesSpec) false w args)
      (Rows.formatsNamesSpec.post enc Tryz.prog Tryz.f3 false true false false) := by
  refine returnsInHanded_of_change_and (C := Tryz.checked) (X := fun w _ => laidMetH Tryz.prog Rows.formatsNamesRow.laid w) (fun _ _ _ hh h => h.of_heap hh) own started noInit Tryz.func3
    (ChangeSpec.witness_shaped (enc := enc) (C := Tryz.checked) (os := os) (X := fun w _ => laidMetH Tryz.prog Rows.formatsNamesRow.laid w) false (World.laidAll Tryz.prog os Rows.formatsNamesRow.laid) #[.int .i64 0, .string .empty] 8 (World.laidAll_os _ _ _)
      (startShaped os) (startOk os) (by kernel_rfl) (by kernel_rfl) (startMet os)) ?_
  intro W base args ds gs before hval0 hW _ _ _ _
  have hval : ∀ (j : Nat) t v, Tryz.f3.params[j]? = some t → args[j]? = some v → Value.okWide Tryz.prog W .any base t v := hval0
  have hW' := hW
  obtain ⟨p, q, hA0, hV, rfl, hfz, hnd⟩ := hW
  have hA : DataW.TrodAll enc Tryz.prog W 0 (fun _ => true) true Tryz.f3.params.toList args.toList ds p := hA0
  rw [Tryz.params3] at hA hval
  obtain ⟨v0, v1, d0, d1, p0, p1, rfl, rfl, rfl, h0, h1⟩ := trodAll_two hA
  obtain ⟨rfl, rfl⟩ := trodVars_none hV
  obtain ⟨a, rfl, rfl, rfl, wa⟩ := open_int Tryz.underlying3 (hval 0 3 v0 rfl rfl) h0
  obtain ⟨s, rfl, rfl, rfl, ws⟩ := Go.ChangeMaps.open_string Tryz.underlying9 (hval 1 9 v1 rfl rfl) h1
  clear hA0 hval0
  simp only [List.append_nil] at hW'
  refine (names_calls a (wrap_of_wf wa) s W).mono fun e W' ⟨he, hk⟩ => ?_
  subst he
  refine ⟨_, rfl, _, _, _, [], [], [], hW', ?_, ?_, ?_, keptBut_keep hk _, fun hh => by cases hh⟩
  · exact trodAll_mk1 (shut_bool Tryz.underlying4 true)
  · exact trodAll_mk2 (shut_int Tryz.underlying3 wa) (Go.ChangeMaps.shut_string Tryz.underlying9 ws)
  · rfl

theorem rowFacts : joinedFacts Tryz.prog 3 Tryz.f3 Rows.formatsNamesSpec Rows.formatsNamesRow = true := by kernel_rfl
theorem named : Tryz.prog.funcNamed "lexicon/lexiconlaw24.FormatsNames" = some 3 := by kernel_rfl

theorem formatsNames_holds : Rows.FormatsNamesSaid :=
  OpenClaim.holds_of_wide 3 Tryz.f3 rfl rfl rfl rfl rfl rfl rfl ⟨rfl, rfl, rfl, rfl, rfl⟩ rfl rfl rfl rfl rfl named Tryz.func3 rowFacts
    (of_decide_eq_true (by kernel_rfl)) (by unfold Func.isWrapper; first | (rw [if_pos (by decide +kernel)]; kernel_rfl) | (rw [if_neg (by decide +kernel)]; exact ⟨rfl, rfl⟩))
    (fun os started H enc _ => formatsNames_lifted os started H enc)
end Go.Proofs.YtplgnjpeikamhaaGreatDoor
