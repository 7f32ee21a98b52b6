/- The tables of the given program for the executor; the two of its functions without a Go body that the runs reach. -/
import Derived.Test.YtplgnjpeikamhaaGreatDoorProg
import Derived.KernelRfl
import Derived.Test.YtplgnjpeikamhaaGreatDoorXh
namespace Go.Proofs.YtplgnjpeikamhaaGreatDoor
open Go Xec

noncomputable def FT : Tr Func := Tr.ofList 20 Tryz.prog.funcs.toList
noncomputable def TT : Tr TypeInfo := Tr.ofList 20 Tryz.prog.types.toList

theorem noNum : (Tryz.prog.funcs.toList.all fun x => !(x.name == "runtime.NumGoroutine")) = true := by kernel_rfl
theorem mixed : Tryz.prog.follows .mixedOrders = true := by kernel_rfl
theorem ext1 : ExtFn Tryz.prog 359 Extern.BytealgIndexByte.indexByte := by
  refine ⟨(FT.get 359).get (by kernel_rfl), ?_, by kernel_rfl, by kernel_rfl, by kernel_rfl, by kernel_rfl⟩
  rw [← Array.getElem?_toList]
  exact ofList_get 20 _ _ _ (Option.some_get _).symm
theorem ext2 : ExtFn Tryz.prog 360 Extern.AbiNoEscape.same := by
  refine ⟨(FT.get 360).get (by kernel_rfl), ?_, by kernel_rfl, by kernel_rfl, by kernel_rfl, by kernel_rfl⟩
  rw [← Array.getElem?_toList]
  exact ofList_get 20 _ _ _ (Option.some_get _).symm

noncomputable def T1 : Tab := mkTab Tryz.prog FT TT 359 360 (fun _ => false) 20
theorem T1_ok : TabOk Tryz.prog T1 := mkTab_ok rfl rfl noNum mixed ext1 ext2 (fun f h => by cases h)

set_option maxRecDepth 100000 in
theorem known_run : allTrue (enter T1 (Xec.runN T1 100000) 11 [] false .run ⟨.lf, T1.ng, .lf⟩) = true := by kernel_rfl
theorem known_calls (w : World) : Calls Tryz.prog 11 #[] w fun en w' => en = .returned (.bool true) ∧ Keep (fun b => b < w.heap.size) w w' :=
  calls_true T1_ok known_run (fun _ => undef) w (VRels.mk_nil _)

noncomputable def T2 : Tab := mkTab Tryz.prog FT TT 359 360 (fun f => Nat.beq f 11) 20
theorem T2_ok : TabOk Tryz.prog T2 := mkTab_ok rfl rfl noNum mixed ext1 ext2 (fun f h w => by
  obtain rfl := beq_nat.1 h
  exact known_calls w)
end Go.Proofs.YtplgnjpeikamhaaGreatDoor
