/- FormatsNames returns true for every number and every text, and leaves all memory that was there as it was: for each of five kinds of numbers and four kinds of texts one run of the executor. -/
import Derived.Test.YtplgnjpeikamhaaGreatDoorWt
namespace Go.Proofs.YtplgnjpeikamhaaGreatDoor
open Go Xec

def names3 : List (List Nat) := [[65, 86, 82, 79], [80, 82, 79, 84, 79, 66, 85, 70], [74, 83, 79, 78]]
def fs : List AVal := [.int .i64 0, .int .i64 1, .int .i64 2, .symi 0 .i64 (some 3) none, .symi 0 .i64 none (some (-1))]
def ns : List AVal := [.str [65, 86, 82, 79], .str [80, 82, 79, 84, 79, 66, 85, 70], .str [74, 83, 79, 78], .syms 1 names3]

set_option maxRecDepth 100000 in
theorem runs : (fs.all fun a => ns.all fun b => allTrue (enter T2 (Xec.runN T2 100000) 3 [a, b] false .run ⟨.lf, T2.ng, .lf⟩)) = true := by kernel_rfl

theorem f_case (sy : Nat → Value) (f : Int) (hs : sy 0 = .int .i64 f) (hw : IntKind.i64.wrap f = f) : ∃ a ∈ fs, VRel (env0 T2.ng sy) a (.int .i64 f) := by
  have key : ∀ a, a ∈ fs → VRel (env0 T2.ng sy) a (.int .i64 f) → ∃ a ∈ fs, VRel (env0 T2.ng sy) a (.int .i64 f) := fun a h h' => ⟨a, h, h'⟩
  by_cases h0 : f = 0
  · exact key (.int .i64 0) (by simp [fs]) (by simp only [VRel, h0])
  by_cases h1 : f = 1
  · exact key (.int .i64 1) (by simp [fs]) (by simp only [VRel, h1])
  by_cases h2 : f = 2
  · exact key (.int .i64 2) (by simp [fs]) (by simp only [VRel, h2])
  by_cases h3 : 3 ≤ f
  · exact key (.symi 0 .i64 (some 3) none) (by simp [fs]) (by
      simp only [VRel]
      exact ⟨hs.symm, f, rfl, ⟨fun l hl => by cases hl; exact h3, fun h hh => by cases hh⟩, hw⟩)
  · exact key (.symi 0 .i64 none (some (-1))) (by simp [fs]) (by
      simp only [VRel]
      exact ⟨hs.symm, f, rfl, ⟨fun l hl => (by cases hl), fun h hh => by cases hh; omega⟩, hw⟩)

theorem n_case (sy : Nat → Value) (s : ByteArray) (hs : sy 1 = .string s) : ∃ b ∈ ns, VRel (env0 T2.ng sy) b (.string s) := by
  by_cases h : ∃ l ∈ names3, s = toBytes l
  · obtain ⟨l, hl, rfl⟩ := h
    have hb : ∀ l ∈ names3, AVal.str l ∈ ns ∧ ∀ b ∈ l, b < 256 := by
      intro l hl
      simp only [names3, List.mem_cons, List.not_mem_nil, or_false] at hl
      rcases hl with rfl | rfl | rfl <;> exact ⟨by simp [ns], by simp⟩
    exact ⟨.str l, (hb l hl).1, by simp only [VRel]; exact ⟨trivial, (hb l hl).2⟩⟩
  · exact ⟨.syms 1 names3, by simp [ns], by
      simp only [VRel]
      exact ⟨hs.symm, s, rfl, fun l hl he => h ⟨l, hl, he⟩⟩⟩

theorem names_calls (f : Int) (hw : IntKind.i64.wrap f = f) (s : ByteArray) (w : World) : Calls Tryz.prog 3 #[.int .i64 f, .string s] w fun en w' => en = .returned (.bool true) ∧ Keep (fun b => b < w.heap.size) w w' := by
  obtain ⟨sy, h0, h1⟩ : ∃ sy : Nat → Value, sy 0 = .int .i64 f ∧ sy 1 = .string s := ⟨fun k => match k with | 0 => .int .i64 f | _ => .string s, rfl, rfl⟩
  obtain ⟨a, ha, va⟩ := f_case sy f h0 hw
  obtain ⟨b, hb, vb⟩ := n_case sy s h1
  have h := List.all_eq_true.1 (List.all_eq_true.1 runs a ha) b hb
  exact calls_true T2_ok h sy w (VRels.mk_cons va (VRels.mk_cons vb (VRels.mk_nil _)))
end Go.Proofs.YtplgnjpeikamhaaGreatDoor
