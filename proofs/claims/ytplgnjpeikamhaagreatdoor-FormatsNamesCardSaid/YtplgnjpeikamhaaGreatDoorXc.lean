/- The executor's steps are the machine's own, part 2. -/
import Derived.Test.YtplgnjpeikamhaaGreatDoorXb
import Derived.Laws.BytesString
set_option linter.unusedSectionVars false
set_option linter.unnecessarySimpa false
set_option linter.unusedVariables false
set_option linter.unusedSimpArgs false
namespace Go.Proofs.YtplgnjpeikamhaaGreatDoor.Xec
variable {α β : Type}

theorem below_ok {hi : Option Int} {b n : Int} (h : below hi b = true) (hn : ∀ h, hi = some h → n ≤ h) : n ≤ b := by
  unfold below at h
  cases hi with
  | none => cases h
  | some x => have := intLe_iff.1 h; have := hn x rfl; omega
theorem above_ok {lo : Option Int} {b n : Int} (h : above lo b = true) (hn : ∀ l, lo = some l → l ≤ n) : b ≤ n := by
  unfold above at h
  cases lo with
  | none => cases h
  | some x => have := intLe_iff.1 h; have := hn x rfl; omega
theorem outOf_ok {lo hi : Option Int} {b n : Int} (h : outOf lo hi b = true) (hn : boundOk lo hi n) : n ≠ b := by
  unfold outOf at h
  rcases (Bool.or_eq_true ..).mp h with h | h
  · have := below_ok h hn.2; omega
  · have := above_ok h hn.1; omega

theorem VRel.rint (e : Env) (k : IntKind) (n : Int) : VRel e (.int k n) (.int k n) := by simp only [VRel]
theorem VRel.rbool (e : Env) (b : Bool) : VRel e (.bool b) (.bool b) := by simp only [VRel]
theorem VRel.rstr (e : Env) {l : List Nat} (h : ∀ b ∈ l, b < 256) : VRel e (.str l) (.string (toBytes l)) := by simp only [VRel]; exact ⟨trivial, h⟩
theorem intLe_not (a b : Int) : (!intLe a b) = decide (b < a) := by
  rw [intLe_decide]
  by_cases h : a ≤ b
  · have : ¬ b < a := by omega
    simp [h, this]
  · have : b < a := by omega
    simp [h, this]
theorem toBytes_append (a b : List Nat) : toBytes a ++ toBytes b = toBytes (a ++ b) := by
  apply ByteArray.ext
  unfold toBytes
  rw [ByteArray.data_append]
  simp

theorem guard_int {P : Program} (op : BinOp) (xt : TypeId) (xo yo : Operand) (k k' : IntKind) (a b : Int) (w : World) : (eqGuard op xt xo yo (.int k a) (.int k' b)).run P w = .ok () w := by
  unfold eqGuard
  cases op <;> simp
theorem guard_str {P : Program} (op : BinOp) (xt : TypeId) (xo yo : Operand) (a b : ByteArray) (w : World) : (eqGuard op xt xo yo (.string a) (.string b)).run P w = .ok () w := by
  unfold eqGuard
  cases op <;> simp
theorem guard_other {P : Program} {op : BinOp} {xt : TypeId} {xo yo : Operand} {X Y : Value} (h1 : X = .nilIface → Y ≠ .nilIface) (h2 : ∀ c c', X = .agg c → Y ≠ .agg c') (w : World) :
    (eqGuard op xt xo yo X Y).run P w = .ok () w := by
  unfold eqGuard
  cases op
  case eql => cases X <;> cases Y <;> first | rfl | exact (h1 rfl rfl).elim | (rename_i c c'; exact (h2 c c' rfl rfl).elim)
  case neq => cases X <;> cases Y <;> first | rfl | exact (h1 rfl rfl).elim | (rename_i c c'; exact (h2 c c' rfl rfl).elim)
  all_goals rfl
theorem guard_nil {P : Program} {op : BinOp} {xt : TypeId} {xo yo : Operand} (hc : ((xo matches .const _) || (yo matches .const _)) = true) (w : World) :
    (eqGuard op xt xo yo .nilIface .nilIface).run P w = .ok () w := by
  unfold eqGuard
  cases op
  case eql => cases xo <;> cases yo <;> first | (simp at hc; done) | rfl
  case neq => cases xo <;> cases yo <;> first | (simp at hc; done) | rfl
  all_goals rfl
theorem guard_agg {P : Program} {op : BinOp} {xt : TypeId} {xo yo : Operand} {c c' : Array Value} (hg : P.eqGuardType P.depth xt = false) (w : World) :
    (eqGuard op xt xo yo (.agg c) (.agg c')).run P w = .ok () w := by
  unfold eqGuard
  cases op
  case eql => simp [hg]
  case neq => simp [hg]
  all_goals rfl
theorem rel_nili {e : Env} {x : AVal} (h : VRel e x .nilIface) : x = .nili ∨ (∃ k, x = .sym k) ∨ x = .junk := by
  cases x <;> simp [VRel] at h ⊢
theorem rel_agg {e : Env} {x : AVal} {c : Array Value} (h : VRel e x (.agg c)) : (∃ l, x = .agg l) ∨ x = .junk := by
  cases x <;> simp [VRel] at h ⊢
  rename_i k
  have := h.2
  simp [Value.oneCell'] at this
def oddPair : Value → Value → Bool
  | .int _ _, .int _ _ => false
  | .float _ _, .float _ _ => false
  | .complex _ _ _, .complex _ _ _ => false
  | .string _, .string _ => false
  | _, _ => true
theorem bin_eq_other {P : Program} {xt : TypeId} {X Y : Value} {b : Bool} {w : World} (hq : (Op.equal xt X Y).run P w = .ok b w)
    (hne : oddPair X Y = true) :
    (binOp .eql xt X Y).run P w = .ok (.bool b) w ∧ (binOp .neq xt X Y).run P w = .ok (.bool (!b)) w := by
  have h1 : binOp .eql xt X Y = (do pure (.bool (← Op.equal xt X Y))) := by
    cases X <;> cases Y <;> first | rfl | (simp [oddPair] at hne; done)
  have h2 : binOp .neq xt X Y = (do pure (.bool (!(← Op.equal xt X Y)))) := by
    cases X <;> cases Y <;> first | rfl | (simp [oddPair] at hne; done)
  rw [h1, h2, Sem.run_bind, Sem.run_bind, hq]
  exact ⟨rfl, rfl⟩
theorem run_guarded {P : Program} {op : BinOp} {xt : TypeId} {xo yo : Operand} {X Y v : Value} {w : World} (h1 : (eqGuard op xt xo yo X Y).run P w = .ok () w) (h2 : (binOp op xt X Y).run P w = .ok v w) :
    (do eqGuard op xt xo yo X Y; binOp op xt X Y : Sem Value).run P w = .ok v w := by
  rw [Sem.run_bind, h1, Result.andThen_ok, h2]

section
variable {P : Program} {T : Tab} (hT : TabOk P T)
include hT

set_option maxHeartbeats 1000000 in
theorem abin_ok {e : Env} {op : BinOp} {xt : TypeId} {xo yo : Operand} {x y : AVal} {X Y : Value} {k : AVal → Option β} {r : β}
    (h : abin T op xt ((xo matches .const _) || (yo matches .const _)) x y k = some r) (hx : VRel e x X) (hy : VRel e y Y) :
    ∃ a, k a = some r ∧ ∃ v, VRel e a v ∧ ∀ w, (do eqGuard op xt xo yo X Y; binOp op xt X Y : Sem Value).run P w = .ok v w := by
  unfold abin at h
  split at h
  · -- ints
    rename_i kx a ky b
    simp only [VRel] at hx hy; subst hx; subst hy
    refine (?_ : ∃ a', k a' = some r ∧ ∃ v, VRel e a' v ∧ ∀ w, (binOp op xt (.int kx a) (.int ky b)).run P w = .ok v w).imp fun a' h' => ⟨h'.1, h'.2.imp fun v h'' => ⟨h''.1, fun w => run_guarded (guard_int ..) (h''.2 w)⟩⟩
    cases op
    case shl =>
      dsimp only at h
      cases hb : intLe 0 b with
      | false => rw [hb] at h; cases h
      | true =>
        rw [hb] at h
        simp only [cond_true, intRes, intK_eq] at h
        have := intLe_iff.1 hb
        exact ⟨_, h, _, VRel.rint _ _ _, fun w => by simp [binOp, Op.shift, Int.not_lt.2 this]⟩
    case shr =>
      dsimp only at h
      cases hb : intLe 0 b with
      | false => rw [hb] at h; cases h
      | true =>
        rw [hb] at h
        simp only [cond_true, intK_eq] at h
        have := intLe_iff.1 hb
        exact ⟨_, h, _, VRel.rint _ _ _, fun w => by simp [binOp, Op.shift, Int.not_lt.2 this]⟩
    all_goals
      dsimp only at h
      have hkk : kx = ky := by
        by_cases hne : kx = ky
        · exact hne
        · rw [decide_eq_false hne] at h; cases h
      subst hkk
      rw [decide_eq_true rfl] at h
      simp only [cond_true, intRes, intK_eq] at h
    case add => exact ⟨_, h, _, VRel.rint _ _ _, fun w => by simp [binOp, Op.intArith]⟩
    case sub => exact ⟨_, h, _, VRel.rint _ _ _, fun w => by simp [binOp, Op.intArith]⟩
    case mul => exact ⟨_, h, _, VRel.rint _ _ _, fun w => by simp [binOp, Op.intArith]⟩
    case quo =>
      cases hz : intEq b 0 with
      | true => rw [hz] at h; cases h
      | false =>
        rw [hz] at h
        simp only [cond_false] at h
        have hz' : b ≠ 0 := fun e => by rw [intEq_iff.2 e] at hz; cases hz
        exact ⟨_, h, _, VRel.rint _ _ _, fun w => by simp [binOp, Op.intDiv, hz']⟩
    case rem =>
      cases hz : intEq b 0 with
      | true => rw [hz] at h; cases h
      | false =>
        rw [hz] at h
        simp only [cond_false] at h
        have hz' : b ≠ 0 := fun e => by rw [intEq_iff.2 e] at hz; cases hz
        exact ⟨_, h, _, VRel.rint _ _ _, fun w => by simp [binOp, Op.intDiv, hz']⟩
    case and => exact ⟨_, h, _, VRel.rint _ _ _, fun w => by simp only [binOp, ne_eq, not_true_eq_false, if_false]; rfl⟩
    case or => exact ⟨_, h, _, VRel.rint _ _ _, fun w => by simp only [binOp, ne_eq, not_true_eq_false, if_false]; rfl⟩
    case xor => exact ⟨_, h, _, VRel.rint _ _ _, fun w => by simp only [binOp, ne_eq, not_true_eq_false, if_false]; rfl⟩
    case andNot => exact ⟨_, h, _, VRel.rint _ _ _, fun w => by simp only [binOp, ne_eq, not_true_eq_false, if_false]; rfl⟩
    case eql => rw [intEq_beq] at h; exact ⟨_, h, _, VRel.rbool _ _, fun w => by simp only [binOp, ne_eq, not_true_eq_false, if_false]; rfl⟩
    case neq => rw [intEq_beq] at h; exact ⟨_, h, _, VRel.rbool _ _, fun w => by simp only [binOp, ne_eq, not_true_eq_false, if_false]; rfl⟩
    case lss => rw [intLe_not] at h; exact ⟨_, h, _, VRel.rbool _ _, fun w => by simp only [binOp, ne_eq, not_true_eq_false, if_false]; rfl⟩
    case leq => rw [intLe_decide] at h; exact ⟨_, h, _, VRel.rbool _ _, fun w => by simp only [binOp, ne_eq, not_true_eq_false, if_false]; rfl⟩
    case gtr => rw [intLe_not] at h; exact ⟨_, h, _, VRel.rbool _ _, fun w => by simp only [binOp, ne_eq, not_true_eq_false, if_false]; rfl⟩
    case geq => rw [intLe_decide] at h; exact ⟨_, h, _, VRel.rbool _ _, fun w => by simp only [binOp, ne_eq, not_true_eq_false, if_false]; rfl⟩
  · -- strings
    rename_i a b
    simp only [VRel] at hx hy
    obtain ⟨rfl, hx⟩ := hx; obtain ⟨rfl, hy⟩ := hy
    refine (?_ : ∃ a', k a' = some r ∧ ∃ v, VRel e a' v ∧ ∀ w, (binOp op xt (.string (toBytes a)) (.string (toBytes b))).run P w = .ok v w).imp fun a' h' => ⟨h'.1, h'.2.imp fun v h'' => ⟨h''.1, fun w => run_guarded (guard_str ..) (h''.2 w)⟩⟩
    cases op
    case add =>
      dsimp only at h
      simp only [appK_eq] at h
      cases hl : Nat.blt (a ++ b).length 9223372036854775808 with
      | false => rw [hl] at h; cases h
      | true =>
        rw [hl] at h
        have hlen := blt_nat.1 hl
        refine ⟨_, h, _, VRel.rstr e (l := a ++ b) (fun c hc => ?_), fun w => ?_⟩
        · rcases List.mem_append.1 hc with hc | hc
          · exact hx c hc
          · exact hy c hc
        · have hno : ¬ (((toBytes a).size + (toBytes b).size : Nat) : Int) > IntKind.i64.max := by
            rw [toBytes_size, toBytes_size]
            simp only [List.length_append] at hlen
            show ¬ (((a.length + b.length : Nat) : Int) > 9223372036854775807)
            omega
          simp only [binOp, Op.stringOp]
          rw [if_neg hno, toBytes_append]; rfl
    case eql => exact ⟨_, h, _, VRel.rbool _ _, fun w => by simp only [binOp, Op.stringOp, bytes_beq hx hy]; rfl⟩
    case neq => exact ⟨_, h, _, VRel.rbool _ _, fun w => by simp only [binOp, Op.stringOp, bytes_beq hx hy]; rfl⟩
    case lss => exact ⟨_, h, _, VRel.rbool _ _, fun w => by simp only [binOp, Op.stringOp, ByteArray_toList, ← natsLess_eq hx hy]; rfl⟩
    case leq => exact ⟨_, h, _, VRel.rbool _ _, fun w => by simp only [binOp, Op.stringOp, bytes_beq hx hy]; simp only [ByteArray_toList, ← natsLess_eq hx hy]; rfl⟩
    case gtr => exact ⟨_, h, _, VRel.rbool _ _, fun w => by simp only [binOp, Op.stringOp, bytes_beq hx hy]; simp only [ByteArray_toList, ← natsLess_eq hx hy]; rfl⟩
    case geq => exact ⟨_, h, _, VRel.rbool _ _, fun w => by simp only [binOp, Op.stringOp, ByteArray_toList, ← natsLess_eq hx hy]; rfl⟩
    all_goals (cases h)
  · -- symi
    rename_i j kx lo hi ky b
    simp only [VRel] at hx hy
    obtain ⟨_, n, rfl, hb, _⟩ := hx
    subst hy
    cases hk : decide (kx = ky) with
    | false => rw [hk] at h; cases h
    | true =>
      have hkk := of_decide_eq_true hk
      subst hkk
      rw [hk] at h
      simp only [cond_true] at h
      cases op
      case eql =>
        dsimp only at h
        cases ho : outOf lo hi b with
        | false => rw [ho] at h; cases h
        | true =>
          rw [ho] at h
          have := outOf_ok ho hb
          exact ⟨_, h, _, VRel.rbool _ _, fun w => by simp [eqGuard, binOp, Op.intCmp, this]⟩
      case neq =>
        dsimp only at h
        cases ho : outOf lo hi b with
        | false => rw [ho] at h; cases h
        | true =>
          rw [ho] at h
          have := outOf_ok ho hb
          exact ⟨_, h, _, VRel.rbool _ _, fun w => by simp [eqGuard, binOp, Op.intCmp, this]⟩
      case lss =>
        dsimp only at h
        cases h1 : below hi (b - 1) with
        | true => rw [h1] at h; have := below_ok h1 hb.2; exact ⟨_, h, _, VRel.rbool _ _, fun w => by simp [eqGuard, binOp, Op.intCmp]; omega⟩
        | false =>
          rw [h1] at h
          cases h2 : above lo b with
          | true => rw [h2] at h; have := above_ok h2 hb.1; exact ⟨_, h, _, VRel.rbool _ _, fun w => by simp [eqGuard, binOp, Op.intCmp]; omega⟩
          | false => rw [h2] at h; cases h
      case leq =>
        dsimp only at h
        cases h1 : below hi b with
        | true => rw [h1] at h; have := below_ok h1 hb.2; exact ⟨_, h, _, VRel.rbool _ _, fun w => by simp [eqGuard, binOp, Op.intCmp]; omega⟩
        | false =>
          rw [h1] at h
          cases h2 : above lo (b + 1) with
          | true => rw [h2] at h; have := above_ok h2 hb.1; exact ⟨_, h, _, VRel.rbool _ _, fun w => by simp [eqGuard, binOp, Op.intCmp]; omega⟩
          | false => rw [h2] at h; cases h
      case gtr =>
        dsimp only at h
        cases h1 : below hi b with
        | true => rw [h1] at h; have := below_ok h1 hb.2; exact ⟨_, h, _, VRel.rbool _ _, fun w => by simp [eqGuard, binOp, Op.intCmp]; omega⟩
        | false =>
          rw [h1] at h
          cases h2 : above lo (b + 1) with
          | true => rw [h2] at h; have := above_ok h2 hb.1; exact ⟨_, h, _, VRel.rbool _ _, fun w => by simp [eqGuard, binOp, Op.intCmp]; omega⟩
          | false => rw [h2] at h; cases h
      case geq =>
        dsimp only at h
        cases h1 : below hi (b - 1) with
        | true => rw [h1] at h; have := below_ok h1 hb.2; exact ⟨_, h, _, VRel.rbool _ _, fun w => by simp [eqGuard, binOp, Op.intCmp]; omega⟩
        | false =>
          rw [h1] at h
          cases h2 : above lo b with
          | true => rw [h2] at h; have := above_ok h2 hb.1; exact ⟨_, h, _, VRel.rbool _ _, fun w => by simp [eqGuard, binOp, Op.intCmp]; omega⟩
          | false => rw [h2] at h; cases h
      all_goals (cases h)
  · -- syms, left
    rename_i j ne b
    simp only [VRel] at hx hy
    obtain ⟨_, s, rfl, hne⟩ := hx
    obtain ⟨rfl, hy⟩ := hy
    refine (?_ : ∃ a', k a' = some r ∧ ∃ v, VRel e a' v ∧ ∀ w, (binOp op xt (.string s) (.string (toBytes b))).run P w = .ok v w).imp fun a' h' => ⟨h'.1, h'.2.imp fun v h'' => ⟨h''.1, fun w => run_guarded (guard_str ..) (h''.2 w)⟩⟩
    have key : ne.any (fun l => natsEq l b) = true → (s.toList == (toBytes b).toList) = false := fun hm => by
      obtain ⟨l, hl, hq⟩ := List.any_eq_true.1 hm
      have := hne l hl
      rw [natsEq_iff.1 hq] at this
      simp only [beq_eq_false_iff_ne, ne_eq]
      intro hh
      apply this
      have h2 := congrArg List.toArray hh
      rw [ByteArray.toList_eq, ByteArray.toList_eq] at h2
      exact ByteArray.ext (by simpa using h2)
    cases op
    case eql =>
      dsimp only at h
      cases hm : ne.any (fun l => natsEq l b) with
      | false => rw [hm] at h; cases h
      | true => rw [hm] at h; exact ⟨_, h, _, VRel.rbool _ _, fun w => by simp only [binOp, Op.stringOp, key hm]; rfl⟩
    case neq =>
      dsimp only at h
      cases hm : ne.any (fun l => natsEq l b) with
      | false => rw [hm] at h; cases h
      | true => rw [hm] at h; exact ⟨_, h, _, VRel.rbool _ _, fun w => by simp only [binOp, Op.stringOp, key hm]; rfl⟩
    all_goals (cases h)
  · -- syms, right
    rename_i b j ne
    simp only [VRel] at hx hy
    obtain ⟨_, s, rfl, hne⟩ := hy
    obtain ⟨rfl, hx⟩ := hx
    refine (?_ : ∃ a', k a' = some r ∧ ∃ v, VRel e a' v ∧ ∀ w, (binOp op xt (.string (toBytes b)) (.string s)).run P w = .ok v w).imp fun a' h' => ⟨h'.1, h'.2.imp fun v h'' => ⟨h''.1, fun w => run_guarded (guard_str ..) (h''.2 w)⟩⟩
    have key : ne.any (fun l => natsEq l b) = true → ((toBytes b).toList == s.toList) = false := fun hm => by
      obtain ⟨l, hl, hq⟩ := List.any_eq_true.1 hm
      have := hne l hl
      rw [natsEq_iff.1 hq] at this
      simp only [beq_eq_false_iff_ne, ne_eq]
      intro hh
      apply this
      have h2 := congrArg List.toArray hh.symm
      rw [ByteArray.toList_eq, ByteArray.toList_eq] at h2
      exact ByteArray.ext (by simpa using h2)
    cases op
    case eql =>
      dsimp only at h
      cases hm : ne.any (fun l => natsEq l b) with
      | false => rw [hm] at h; cases h
      | true => rw [hm] at h; exact ⟨_, h, _, VRel.rbool _ _, fun w => by simp only [binOp, Op.stringOp, key hm]; rfl⟩
    case neq =>
      dsimp only at h
      cases hm : ne.any (fun l => natsEq l b) with
      | false => rw [hm] at h; cases h
      | true => rw [hm] at h; exact ⟨_, h, _, VRel.rbool _ _, fun w => by simp only [binOp, Op.stringOp, key hm]; rfl⟩
    all_goals (cases h)
  · -- nil interfaces
    simp only [VRel] at hx hy
    subst hx; subst hy
    have eqn : ∀ {ms}, T.und xt = some (.interface ms) → ∀ w, (Op.equal xt .nilIface .nilIface).run P w = .ok true w := fun {ms} hu w => by
      have : ∀ D, (Op.equalIn (D + 1) xt .nilIface .nilIface).run P w = .ok true w := fun D => by
        unfold Op.equalIn; simp [run_und hT hu]
      exact this 9999
    split at h
    · rename_i hc hu
      exact ⟨_, h, _, VRel.rbool _ _, fun w => run_guarded (guard_nil hc w) (by simp only [binOp]; rw [Sem.run_bind, eqn hu w]; rfl)⟩
    · rename_i hc hu
      exact ⟨_, h, _, VRel.rbool _ _, fun w => run_guarded (guard_nil hc w) (by simp only [binOp]; rw [Sem.run_bind, eqn hu w]; rfl)⟩
    · cases h
  · -- the others
    rename_i hn1 hn2 hn3 hn4 hn5 hn6
    have main : ∀ b, aequal T 20 xt x y = some b → ∀ w, (eqGuard op xt xo yo X Y).run P w = .ok () w ∧ (Op.equal xt X Y).run P w = .ok b w := by
      intro b hb w
      refine ⟨?_, aequal_ok hT 20 xt x y X Y b hb hx hy _ w (by decide)⟩
      by_cases hagg : ∃ c c', X = .agg c ∧ Y = .agg c'
      · obtain ⟨c, c', rfl, rfl⟩ := hagg
        refine guard_agg ?_ w
        have hps : T.ps xt = true := by
          rcases rel_agg hx with ⟨l, rfl⟩ | rfl
          · unfold aequal at hb
            split at hb <;> first | (cases hb; done) | skip
            all_goals (first | (exfalso; simp_all; done) | skip)
            cases hq : T.ps xt with
            | true => rfl
            | false => simp_all
          · unfold aequal at hb
            split at hb <;> first | (cases hb; done) | (exfalso; simp_all; done)
        exact (hT.ps xt hps).1
      · refine guard_other (fun hX hY => ?_) (fun c c' h1 h2 => hagg ⟨c, c', h1, h2⟩) w
        subst hX; subst hY
        rcases rel_nili hx with rfl | ⟨j, rfl⟩ | rfl <;> unfold aequal at hb <;> split at hb <;> first | (cases hb; done) | (exfalso; simp_all; done) | skip
        all_goals (exfalso; simp_all [VRel])
    have fin : ∀ v, (∀ w, (eqGuard op xt xo yo X Y).run P w = .ok () w ∧ (binOp op xt X Y).run P w = .ok v w) → ∀ w, (do eqGuard op xt xo yo X Y; binOp op xt X Y : Sem Value).run P w = .ok v w :=
      fun v hv w => run_guarded (hv w).1 (hv w).2
    have hb0 : ∀ b, aequal T 20 xt x y = some b → (∀ w, (binOp .eql xt X Y).run P w = .ok (.bool b) w) ∧ (∀ w, (binOp .neq xt X Y).run P w = .ok (.bool (!b)) w) := by
      intro b hb
      have hq := fun w => (main b hb w).2
      have hne : oddPair X Y = true := by
        clear main fin
        unfold aequal at hb
        split at hb
        all_goals (first | (cases hb; done) | skip)
        all_goals (first | (exact (hn1 _ _ _ _ rfl rfl).elim) | (exact (hn2 _ _ rfl rfl).elim) | skip)
        all_goals (simp only [VRel] at hx hy)
        all_goals (first
          | (subst hx; subst hy; rfl)
          | (subst hx; rfl)
          | (subst hy; obtain ⟨_, _, rfl⟩ := hx; rfl)
          | (subst hy; obtain ⟨_, _, _, _, rfl⟩ := hx; rfl)
          | (obtain ⟨_, _, rfl⟩ := hx; rfl)
          | (obtain ⟨_, _, _, _, rfl⟩ := hx; rfl)
          | (obtain ⟨_, _, _, _, _, rfl⟩ := hx; rfl))
      exact ⟨fun w => (bin_eq_other (hq w) hne).1, fun w => (bin_eq_other (hq w) hne).2⟩
    cases op
    case eql =>
      dsimp only at h
      split at h
      · rename_i hb; exact ⟨_, h, _, VRel.rbool _ _, fin _ fun w => ⟨(main _ hb w).1, (hb0 _ hb).1 w⟩⟩
      · rename_i hb; exact ⟨_, h, _, VRel.rbool _ _, fin _ fun w => ⟨(main _ hb w).1, (hb0 _ hb).1 w⟩⟩
      · cases h
    case neq =>
      dsimp only at h
      split at h
      · rename_i hb; exact ⟨_, h, _, VRel.rbool _ _, fin _ fun w => ⟨(main _ hb w).1, (hb0 _ hb).2 w⟩⟩
      · rename_i hb; exact ⟨_, h, _, VRel.rbool _ _, fin _ fun w => ⟨(main _ hb w).1, (hb0 _ hb).2 w⟩⟩
      · cases h
    all_goals (cases h)
end
end Go.Proofs.YtplgnjpeikamhaaGreatDoor.Xec

namespace Go.Proofs.YtplgnjpeikamhaaGreatDoor.Xec
variable {α β : Type}

def DidV (P : Program) (T : Tab) (F : Nat → Prop) (e : Env) (m : AMem) (w : World) (s : Sem Value) (a : AVal) (m' : AMem) : Prop :=
  ∃ v w' e', s.run P w = .ok v w' ∧ VRel e' a v ∧ Rel T F e' m' w' ∧ Ext m e e' ∧ m.next ≤ m'.next ∧ Keep F w w'

theorem DidV.pure {P : Program} {T : Tab} {F : Nat → Prop} {e : Env} {m : AMem} {w : World} {s : Sem Value} {a : AVal} {v : Value} (hR : Rel T F e m w) (h : s.run P w = .ok v w) (hv : VRel e a v) : DidV P T F e m w s a m :=
  ⟨v, w, e, h, hv, hR, Ext.refl m e, Nat.le_refl _, Keep.refl F w⟩

theorem foldl_push (bs : List Nat) : ∀ (s : ByteArray), (bs.map fun b => (Int.ofNat b)).foldl (fun r n => r.push (UInt8.ofNat n.toNat)) s = s ++ toBytes bs := by
  induction bs with
  | nil => intro s; apply ByteArray.ext; simp [toBytes]
  | cons b r ih =>
    intro s
    simp only [List.map_cons, List.foldl_cons]
    rw [ih]
    apply ByteArray.ext
    rw [ByteArray.data_append, ByteArray.data_append, ByteArray.data_push]
    simp [toBytes]

theorem rel_bytes {e : Env} : ∀ {bs : List Nat} {vs : List Value}, VRels e (bs.map fun b => .int .u8 (.ofNat b)) vs → vs = bs.map fun b => Value.int .u8 (.ofNat b)
  | [], _, h => by simpa using h.nil
  | b :: bs, _, h => by
    simp only [List.map_cons] at h
    obtain ⟨v, r, rfl, hv, hr⟩ := h.cons
    simp only [VRel] at hv
    subst hv
    simp only [List.map_cons, List.cons.injEq, true_and]
    exact rel_bytes hr
theorem bytes_rel (e : Env) : ∀ (bs : List Nat), VRels e (bs.map fun b => .int .u8 (.ofNat b)) (bs.map fun b => Value.int .u8 (.ofNat b))
  | [] => VRels.mk_nil e
  | b :: bs => VRels.mk_cons (VRel.rint ..) (bytes_rel e bs)

theorem encode_ascii {n : Nat} (h : n < 128) : Utf8.encode (Int.ofNat n) = toBytes [n] := by
  unfold Utf8.encode
  have hv : Utf8.valid (Int.ofNat n) = true := by
    unfold Utf8.valid; simp; omega
  simp only [hv, if_true]
  have : (Int.ofNat n).toNat = n := rfl
  rw [this, if_pos (by omega)]
  rfl

section
variable {P : Program} {T : Tab} (hT : TabOk P T)
include hT

omit hT in
theorem isU8_ok {t : TypeId} (h : isU8 T t = true) : T.und t = some (.int .u8) ∧ T.size t = some 1 := by
  unfold isU8 at h
  split at h
  · exact ⟨‹_›, ‹_›⟩
  · cases h

variable {F : Nat → Prop} {e : Env} {m : AMem} {w : World} (hR : Rel T F e m w)
include hR

theorem aconv_ok {src dst : TypeId} {x : AVal} {X : Value} {k : AVal → AMem → Option β} {r : β} (h : aconv T src dst x m k = some r) (hx : VRel e x X) :
    ∃ a m', k a m' = some r ∧ DidV P T F e m w (convert src dst X) a m' := by
  unfold aconv at h
  split at h
  · rename_i d1 kd kk n hs hd
    simp only [VRel] at hx; subst hx
    rw [intK_eq] at h
    exact ⟨_, _, h, .pure hR (by simp [convert, run_und hT hs, run_und hT hd, Conv.intToInt]) (VRel.rint ..)⟩
  · rename_i d1 kd j kk lo hi hs hd
    cases hk : decide (kd = kk) with
    | false => rw [hk] at h; cases h
    | true =>
      rw [hk] at h
      have := of_decide_eq_true hk
      subst this
      simp only [VRel] at hx
      obtain ⟨h1, n, rfl, h2, h3⟩ := hx
      exact ⟨_, _, h, .pure hR (v := .int kd n) (by simp [convert, run_und hT hs, run_und hT hd, Conv.intToInt, h3]) (by simp only [VRel]; exact ⟨h1, n, rfl, h2, h3⟩)⟩
  · rename_i d1 l hs hd
    simp only [VRel] at hx
    obtain ⟨rfl, hx⟩ := hx
    exact ⟨_, _, h, .pure hR (by simp [convert, run_und hT hs, run_und hT hd]) (VRel.rstr e hx)⟩
  · rename_i d1 kk n hs hd
    simp only [VRel] at hx; subst hx
    cases hb : Nat.blt n 128 with
    | false => rw [hb] at h; cases h
    | true =>
      rw [hb] at h
      have := blt_nat.1 hb
      refine ⟨_, _, h, .pure hR (v := .string (toBytes [n])) ?_ (VRel.rstr e (by intro b hb; simp at hb; omega))⟩
      simp only [convert, Sem.run_bind, run_und hT hs, run_und hT hd, Result.andThen_ok, Conv.intToString, encode_ascii this]
      rfl
  · -- string to bytes
    rename_i d1 el l hs hd
    simp only [VRel] at hx
    obtain ⟨rfl, hx⟩ := hx
    cases hu8 : isU8 T el with
    | false => rw [hu8] at h; cases h
    | true =>
      rw [hu8] at h
      simp only [cond_true, bytesK_eq] at h
      obtain ⟨hel, hsz⟩ := isU8_ok hu8
      obtain ⟨t, h1, ht⟩ := fillK_some _ _ _ _ _ h
      obtain ⟨m', h2, hn, hg, hb⟩ := newBlkK_some h1
      have hq : ∃ cap, l.length ≤ cap ∧ ∀ u : World, (choose (.appendCap (toBytes l).size 0 el)).run P w = .ok cap { w with drawn := w.drawn + 1 } := by
        refine ⟨(Question.appendCap (toBytes l).size 0 el).cut (w.tape w.drawn (Question.appendCap (toBytes l).size 0 el)), ?_, fun _ => ?_⟩
        · simp only [Question.cut, toBytes_size]; omega
        · rw [run_choose]; simp [Question.forced]
      obtain ⟨cap, hcap, hch⟩ := hq
      obtain ⟨w1, hw1⟩ : ∃ w1 : World, w1 = { w with drawn := w.drawn + 1 } := ⟨_, rfl⟩
      have hR1 : Rel T F e m w1 := hR.of_heap (by rw [hw1])
      let Vs : List Value := l.map fun b => .int .u8 (.ofNat b)
      let tail : List Value := List.replicate (cap - l.length) (.int .u8 0)
      let c : Array Value := (Vs ++ tail).toArray
      have hcs : c.size = cap := by simp [c, Vs, tail]; omega
      have helems : (toBytes l).data.map (fun b => Value.int .u8 b.toNat) = Vs.toArray := by
        simp only [toBytes, Vs]
        rw [List.map_toArray, List.map_map]
        congr 1
        refine List.map_congr_left fun b hb => ?_
        have := hx b hb
        simp
        omega
      have hrun : (Conv.stringToBytes el (toBytes l)).run P w = .ok (.slice (some ⟨w.heap.size, 0, none⟩) l.length cap) { w1 with heap := w.heap.push (.cells c el (cap, cap + 1)) } := by
        unfold Conv.stringToBytes
        simp only [Sem.run_bind, hch w, Result.andThen_ok, helems]
        simp only [newRow, Sem.run_bind, run_newObj, Result.andThen_ok, Sem.run_pure, markStringish, run_shape, World.shape?]
        have e1 : (Vs.toArray ++ Array.replicate (cap - (toBytes l).size) (Value.int .u8 0)) = c := by
          simp [c, tail, toBytes_size]
        rw [e1]
        simp only [Array.getElem?_push_size]
        simp only [run_freeze, Result.andThen_ok, Sem.run_bind, toBytes_size]
        rw [hw1]
        simp only [World.freeze, Nat.one_ne_zero, if_false, hcs]
        congr 2
        apply Array.ext_getElem?
        intro i
        rw [Array.getElem?_modify, Array.getElem?_push, Array.getElem?_push]
        by_cases hi : i = w.heap.size
        · subst hi; simp
        · simp [hi, Ne.symm hi]
      obtain ⟨a1, a2, a3⟩ := hR1.alloc (.row el none 0 0 true false (0 + (l.map fun b => AVal.int .u8 (.ofNat b)).length) t) (.cells c el (cap, cap + 1)) cap rfl hn hg hb (by
        have := newRow_real (T := T) (e := e.add m.next ⟨w1.heap.size, 0, cap⟩) el (l.map fun b => AVal.int .u8 (.ofNat b)) Vs tail (bytes_rel _ l) t ht true false (cap, cap + 1) cap
          (by right; simp [Vs, tail]; omega) (fun s hs => by rw [hsz] at hs; cases hs; simp [Vs, tail]; omega) (by simp) (w1.heap.push (.cells c el (cap, cap + 1))) w1.heap.size (by simp [c])
        simpa using this)
      refine ⟨_, _, h2, .slice (some ⟨w.heap.size, 0, none⟩) l.length cap, _, _, ?_, ?_, a1, a2, by omega, ?_⟩
      · show (convert src dst (.string (toBytes l))).run P w = .ok (.slice (some ⟨w.heap.size, 0, none⟩) l.length cap) _
        have : (convert src dst (.string (toBytes l))).run P w = (Conv.stringToBytes el (toBytes l)).run P w := by
          simp [convert, run_und hT hs, run_und hT hd, run_und hT hel]
        rw [this, hrun, hw1]
      · simp only [VRel]
        exact ⟨⟨w1.heap.size, 0, cap⟩, cap, by simp [Env.add], ⟨by simp, by simpa using hcap⟩, by rw [hw1]; simp⟩
      · exact Keep.trans (b := w1) ⟨by rw [hw1]; exact fun _ _ => rfl, by rw [hw1]; exact Nat.le_refl _, by rw [hw1], by rw [hw1], by rw [hw1]⟩ a3
  · -- bytes to string
    rename_i el id off len cp hs hd
    cases hu8 : isU8 T el with
    | false => rw [hu8] at h; cases h
    | true =>
      rw [hu8] at h
      simp only [cond_true] at h
      obtain ⟨hel, hsz⟩ := isU8_ok hu8
      simp only [VRel] at hx
      obtain ⟨p, n, hp, hc, rfl⟩ := hx
      split at h
      · rename_i cs hcs
        obtain ⟨vs, hv, hlen, el', g, gb, fz, st, ex, kk, cc, c, fr, hb, hle, hc', hk, hg⟩ := cells_ok hR hp hcs
        obtain ⟨bs, rfl, hbs, hk'⟩ := unbytesK_some _ _ _ h
        have hvs := rel_bytes hv
        have hload : (loadCells ⟨p.blk, p.base + off, none⟩ len).run P w = .ok vs.toArray w := run_cells hlen fun i hi => by
          rw [cell?_of hc', show p.base + off + i = p.base + (off + i) from by omega]; exact hg i hi
        refine ⟨_, _, hk', .pure hR (v := .string (toBytes bs)) ?_ (VRel.rstr e hbs)⟩
        rw [run_convert_bytes_string w src dst el _ _ _ (und_ok hT hs) (und_ok hT hel) (und_ok hT hd)]
        rw [run_bytesToString w _ _ _ (bs.map Int.ofNat) (by rw [hload, hvs, List.map_map]; rfl)]
        rw [show (bs.map Int.ofNat).foldl (fun r n => r.push (UInt8.ofNat n.toNat)) ByteArray.empty = toBytes bs from by rw [foldl_push]; simp]
      · cases h
    
  · rename_i el hs hd
    cases hu8 : isU8 T el with
    | false => rw [hu8] at h; cases h
    | true =>
      rw [hu8] at h
      obtain ⟨hel, hsz⟩ := isU8_ok hu8
      simp only [VRel] at hx; subst hx
      refine ⟨_, _, h, .pure hR (v := .string (toBytes [])) ?_ (VRel.rstr e (by simp))⟩
      rw [run_convert_bytes_string w src dst el _ _ _ (und_ok hT hs) (und_ok hT hel) (und_ok hT hd)]
      rfl
  · rename_i el id hs hd
    cases hu8 : isU8 T el with
    | false => rw [hu8] at h; cases h
    | true =>
      rw [hu8] at h
      obtain ⟨hel, hsz⟩ := isU8_ok hu8
      simp only [VRel] at hx
      obtain ⟨p, hp, rfl⟩ := hx
      refine ⟨_, _, h, .pure hR (v := .string (toBytes [])) ?_ (VRel.rstr e (by simp))⟩
      rw [run_convert_bytes_string w src dst el _ _ _ (und_ok hT hs) (und_ok hT hel) (und_ok hT hd)]
      rw [run_bytesToString w _ _ _ [] (by simp [loadCells, loadCellsFrom])]
      rfl
  · -- a pointer to unsafe.Pointer
    rename_i t id off hs hd
    obtain ⟨p, hp, rfl⟩ : ∃ p, e.pl id = some p ∧ X = .pointer (some ⟨p.blk, p.base + off, none⟩) := by simpa only [VRel] using hx
    split at h
    · rename_i el g gb fz st ex n cs sz hb hsz
      cases hlt : Nat.blt off n with
      | false => rw [hlt] at h; cases h
      | true =>
        rw [hlt] at h
        have hlt' := blt_nat.1 hlt
        have hb' : m.blks.get id = some (.row el g gb fz st ex n cs) := by obtain ⟨_, _, _⟩ := m; exact hb
        obtain ⟨c, fr, hc, hcell, hfr, hnc, hcap, hex⟩ := hR.real id _ p hb' hp
        refine ⟨_, _, h, .pure hR (v := .pointer (some ⟨p.blk, p.base + off, none⟩)) ?_ hx⟩
        have hsh : w.shape? p.blk = some (el, c.size) := by simp [World.shape?, hc]
        have hno : ¬ (c.size ≤ p.base + off) := by omega
        simp [convert, run_und hT hs, run_und hT hd, Conv.unsafePointer, Conv.seenAt, viewAt, hsh, cellsIn, run_size hT hsz, hno]
    · cases h
  · rename_i t hs hd
    simp only [VRel] at hx; subst hx
    exact ⟨_, _, h, .pure hR (v := .pointer none) (by simp [convert, run_und hT hs, run_und hT hd, Conv.unsafePointer]) (by simp only [VRel])⟩
  · rename_i t hs hd
    simp only [VRel] at hx; subst hx
    exact ⟨_, _, h, .pure hR (v := .pointer none) (by simp [convert, run_und hT hs, run_und hT hd, Conv.unsafePointer]) (by simp only [VRel])⟩
  · -- and back
    rename_i t id off hs hd
    obtain ⟨p, hp, rfl⟩ : ∃ p, e.pl id = some p ∧ X = .pointer (some ⟨p.blk, p.base + off, none⟩) := by simpa only [VRel] using hx
    split at h
    · rename_i el g gb fz st n cs hb
      cases hl : (T.lies el n off t && (T.size t).isSome) with
      | false => rw [hl] at h; cases h
      | true =>
        rw [hl] at h
        obtain ⟨hl, hl2⟩ := (Bool.and_eq_true ..).mp hl
        have hb' : m.blks.get id = some (.row el g gb fz st true n cs) := by obtain ⟨_, _, _⟩ := m; exact hb
        obtain ⟨c, fr, hc, hcell, hfr, hnc, hcap, hex⟩ := hR.real id _ p hb' hp
        obtain ⟨hb0, hcn⟩ := hex rfl
        refine ⟨_, _, h, .pure hR (v := .pointer (some ⟨p.blk, p.base + off, none⟩)) ?_ hx⟩
        have hsh : w.shape? p.blk = some (el, c.size) := by simp [World.shape?, hc]
        have hva : (variablesAt ⟨p.blk, p.base + off, none⟩ t 1).run P w = .ok true w := by
          simp [variablesAt, hsh, hcn, hb0, hT.lies _ _ _ _ hl]
        have hsz : ∃ s, (sizeOf t).run P w = .ok s w := by
          cases ht : T.size t with
          | some s => exact ⟨s, run_size hT ht w⟩
          | none => rw [ht] at hl2; cases hl2
        obtain ⟨s, hs'⟩ := hsz
        simp [convert, run_und hT hs, run_und hT hd, Conv.unsafePointer, Conv.seenAt, viewAt, hsh, hs', hva]
    · cases h
  · cases h
end
end Go.Proofs.YtplgnjpeikamhaaGreatDoor.Xec

namespace Go.Proofs.YtplgnjpeikamhaaGreatDoor.Xec
variable {α β : Type}

def OptRel (e : Env) : Option AVal → Option Value → Prop
  | none, none => True
  | some a, some v => VRel e a v
  | _, _ => False

section
variable {P : Program} {T : Tab} (hT : TabOk P T) {e : Env}
include hT

theorem aindexAddr_ok {t : TypeId} {x i : AVal} {X I : Value} {k : AVal → Option β} {r : β} (h : aindexAddr T t x i k = some r) (hx : VRel e x X) (hi : VRel e i I) :
    ∃ a, k a = some r ∧ ∃ v, VRel e a v ∧ ∀ w, (Instr.indexAt t X I).run P w = .ok v w := by
  unfold aindexAddr at h
  split at h
  · rename_i len el id off kk i hu
    simp only [VRel] at hx hi
    obtain ⟨p, hp, rfl⟩ := hx
    subst hi
    split at h
    · rename_i s hs
      cases hlt : Nat.blt i len with
      | false => rw [hlt] at h; cases h
      | true =>
        rw [hlt] at h
        simp only [cond_true, natK_eq] at h
        have := blt_nat.1 hlt
        refine ⟨_, h, .pointer (some ⟨p.blk, p.base + (off + i * s), none⟩), by simp only [VRel]; exact ⟨p, hp, rfl⟩, fun w => ?_⟩
        simp [Instr.indexAt, asIntOf, run_und hT hu, Instr.sureAddr, this, run_size hT hs, add_none]
        omega
    · cases h
  · rename_i el id off len c kk i hu
    simp only [VRel] at hx hi
    obtain ⟨p, n, hp, hc, rfl⟩ := hx
    subst hi
    split at h
    · rename_i s hs
      cases hlt : Nat.blt i len with
      | false => rw [hlt] at h; cases h
      | true =>
        rw [hlt] at h
        simp only [cond_true, natK_eq] at h
        have := blt_nat.1 hlt
        refine ⟨_, h, .pointer (some ⟨p.blk, p.base + (off + i * s), none⟩), by simp only [VRel]; exact ⟨p, hp, rfl⟩, fun w => ?_⟩
        simp [Instr.indexAt, asIntOf, run_und hT hu, this, run_size hT hs, add_none]
        omega
    · cases h
  · cases h

theorem aindex_ok {t : TypeId} {x i : AVal} {X I : Value} {k : AVal → Option β} {r : β} (h : aindex T t x i k = some r) (hx : VRel e x X) (hi : VRel e i I) (w : World) :
    ∃ a, k a = some r ∧ ∃ v, VRel e a v ∧ (Instr.index t X I).run P w = .ok v w := by
  unfold aindex at h
  split at h
  · rename_i len el cs kk i hu
    simp only [VRel] at hx hi
    obtain ⟨vs, hv, rfl⟩ := hx
    subst hi
    split at h
    · rename_i s hs
      cases hlt : Nat.blt i len with
      | false => rw [hlt] at h; cases h
      | true =>
        rw [hlt] at h
        simp only [cond_true] at h
        have := blt_nat.1 hlt
        split at h
        · rename_i v hp
          obtain ⟨V, hV, hr⟩ := part_ok hT hv hp w
          exact ⟨_, h, V, hr, by simp [Instr.index, asIntOf, run_und hT hu, this, run_size hT hs, hV]⟩
        · cases h
    · cases h
  · rename_i l kk i hu
    simp only [VRel] at hx hi
    obtain ⟨rfl, hl⟩ := hx
    subst hi
    split at h
    · rename_i b hb
      refine ⟨_, h, .int .u8 (.ofNat b), VRel.rint .., ?_⟩
      have hlt : i < l.length := (List.getElem?_eq_some_iff.1 hb).1
      have hb256 : b < 256 := hl b (List.mem_of_getElem? hb)
      have hg : (toBytes l)[i]? = some b.toUInt8 := by
        have hsz : i < (toBytes l).size := by rw [toBytes_size]; exact hlt
        rw [getElem?_pos (toBytes l) i hsz]
        congr 1
        show (toBytes l).data[i] = _
        simp only [toBytes]
        rw [List.getElem?_eq_getElem hlt] at hb
        cases hb
        simp
      simp [Instr.index, asIntOf, run_und hT hu, hg]
      omega
    · cases h
  · cases h

omit hT in
theorem abound_ok {x : Option AVal} {X : Option Value} (hx : OptRel e x X) {dflt top : Nat} {k : Nat → Option β} {r : β} (h : abound x dflt top k = some r) :
    ∃ n, k n = some r ∧ (x = none → X = none ∧ n = dflt) ∧ (x ≠ none → n ≤ top ∧ ∃ v, X = some v ∧ ∀ top' code w, n ≤ top' → (Instr.sliceBound v top' code).run P w = .ok n w) := by
  unfold abound at h
  split at h
  · exact ⟨dflt, h, fun _ => ⟨(by cases X with | none => rfl | some v => exact hx.elim), rfl⟩, fun hn => (hn rfl).elim⟩
  · rename_i kk n
    cases hb : Nat.ble n top with
    | false => rw [hb] at h; cases h
    | true =>
      rw [hb] at h
      have := ble_nat.1 hb
      refine ⟨n, h, fun hh => (by cases hh), fun _ => ⟨this, ?_⟩⟩
      cases X with
      | none => exact hx.elim
      | some v =>
        refine ⟨v, rfl, fun top' code w ht => ?_⟩
        simp only [OptRel, VRel] at hx
        subst hx
        simp [Instr.sliceBound, asIntOf, ht]
  · cases h

omit hT in
/-- the three bounds -/
theorem bounds_ok {lo hi mx : Option AVal} {Lo Hi Mx : Option Value} (h1 : OptRel e lo Lo) (h2 : OptRel e hi Hi) (h3 : OptRel e mx Mx)
    {len cap : Nat} (isSlice : Bool) (hne : mx ≠ none → hi ≠ none) {k : Nat → Nat → Nat → Option β} {r : β}
    (h : (abound mx cap cap fun m => abound hi len m fun hh => abound lo 0 hh fun l => k m hh l) = some r) :
    ∃ m hh l, k m hh l = some r ∧ (mx = none → m = cap) ∧ (hi = none → hh = len) ∧ (lo = none → l = 0) ∧ (lo ≠ none → l ≤ hh) ∧ (hi ≠ none → hh ≤ m) ∧ (mx ≠ none → m ≤ cap) ∧
      ∀ w, (Instr.sliceBounds isSlice len cap Lo Hi Mx).run P w = .ok (l, hh, m) w := by
  obtain ⟨m, hm, m1, m2⟩ := abound_ok (P := P) h3 h
  obtain ⟨hh, hhk, a1, a2⟩ := abound_ok (P := P) h2 hm
  obtain ⟨l, hl, b1, b2⟩ := abound_ok (P := P) h1 hhk
  refine ⟨m, hh, l, hl, fun hn => (m1 hn).2, fun hn => (a1 hn).2, fun hn => (b1 hn).2, fun hn => (b2 hn).1, fun hn => (a2 hn).1, fun hn => (m2 hn).1, fun w => ?_⟩
  unfold Instr.sliceBounds
  by_cases n1 : mx = none
  · obtain ⟨rfl, rfl⟩ := m1 n1
    by_cases n2 : hi = none
    · obtain ⟨rfl, rfl⟩ := a1 n2
      by_cases n3 : lo = none
      · obtain ⟨rfl, rfl⟩ := b1 n3; simp
      · obtain ⟨q3, v, rfl, hv⟩ := b2 n3; simp [hv _ _ _ q3]
    · obtain ⟨q2, u, rfl, hu⟩ := a2 n2
      by_cases n3 : lo = none
      · obtain ⟨rfl, rfl⟩ := b1 n3; simp [hu _ _ _ q2]
      · obtain ⟨q3, v, rfl, hv⟩ := b2 n3; simp [hu _ _ _ q2, hv _ _ _ q3]
  · obtain ⟨q1, q, rfl, hq⟩ := m2 n1
    obtain ⟨q2, u, rfl, hu⟩ := a2 (hne n1)
    by_cases n3 : lo = none
    · obtain ⟨rfl, rfl⟩ := b1 n3; simp [hq _ _ _ q1, hu _ _ _ q2]
    · obtain ⟨q3, v, rfl, hv⟩ := b2 n3; simp [hq _ _ _ q1, hu _ _ _ q2, hv _ _ _ q3]

omit hT in
/-- the bounds of a slice whose capacity is not known, but that it is enough -/
theorem bounds_len {lo hi mx : Option AVal} {Lo Hi Mx : Option Value} (h1 : OptRel e lo Lo) (h2 : OptRel e hi Hi) (h3 : OptRel e mx Mx)
    {len cap : Nat} (hc : len ≤ cap) (hne : mx ≠ none → hi ≠ none) {k : Nat → Nat → Nat → Option β} {r : β}
    (h : (abound mx len len fun m => abound hi len m fun hh => abound lo 0 hh fun l => k m hh l) = some r) :
    ∃ m hh l, k m hh l = some r ∧ m ≤ len ∧ hh ≤ m ∧ l ≤ hh ∧ (mx = none → m = len) ∧
      ∀ w, (Instr.sliceBounds true len cap Lo Hi Mx).run P w = .ok (l, hh, if mx.isSome then m else cap) w := by
  obtain ⟨m, hm, m1, m2⟩ := abound_ok (P := P) h3 h
  obtain ⟨hh, hhk, a1, a2⟩ := abound_ok (P := P) h2 hm
  obtain ⟨l, hl, b1, b2⟩ := abound_ok (P := P) h1 hhk
  have q1 : m ≤ len := by
    by_cases n1 : mx = none
    · exact Nat.le_of_eq (m1 n1).2
    · exact (m2 n1).1
  have q2 : hh ≤ m := by
    by_cases n2 : hi = none
    · by_cases n1 : mx = none
      · rw [(a1 n2).2, (m1 n1).2]; exact Nat.le_refl _
      · exact (hne n1 n2).elim
    · exact (a2 n2).1
  have q3 : l ≤ hh := by
    by_cases n3 : lo = none
    · rw [(b1 n3).2]; exact Nat.zero_le _
    · exact (b2 n3).1
  refine ⟨m, hh, l, hl, q1, q2, q3, fun hn => (m1 hn).2, fun w => ?_⟩
  unfold Instr.sliceBounds
  by_cases n1 : mx = none
  · obtain ⟨rfl, rfl⟩ := m1 n1
    subst n1
    by_cases n2 : hi = none
    · obtain ⟨rfl, rfl⟩ := a1 n2
      by_cases n3 : lo = none
      · obtain ⟨rfl, rfl⟩ := b1 n3; simp
      · obtain ⟨_, v, rfl, hv⟩ := b2 n3; simp [hv _ _ _ q3]
    · obtain ⟨_, u, rfl, hu⟩ := a2 n2
      by_cases n3 : lo = none
      · obtain ⟨rfl, rfl⟩ := b1 n3; simp [hu cap _ _ (by omega)]
      · obtain ⟨_, v, rfl, hv⟩ := b2 n3; simp [hu cap _ _ (by omega), hv _ _ _ q3]
  · have hs : mx.isSome = true := by cases mx with | none => exact (n1 rfl).elim | some _ => rfl
    obtain ⟨_, q, rfl, hq⟩ := m2 n1
    obtain ⟨_, u, rfl, hu⟩ := a2 (hne n1)
    by_cases n3 : lo = none
    · obtain ⟨rfl, rfl⟩ := b1 n3; simp [hs, hq cap _ _ (by omega), hu _ _ _ q2]
    · obtain ⟨_, v, rfl, hv⟩ := b2 n3; simp [hs, hq cap _ _ (by omega), hu _ _ _ q2, hv _ _ _ q3]

theorem extract_bytes (s : List Nat) (l h : Nat) : (toBytes s).extract l h = toBytes ((s.drop l).take (h - l)) := by
  apply ByteArray.ext
  rw [ByteArray.data_extract]
  simp [toBytes, List.extract_eq_take_drop]

theorem aslice_ok {t : TypeId} {x : AVal} {X : Value} {lo hi mx : Option AVal} {Lo Hi Mx : Option Value} (hx : VRel e x X) (h1 : OptRel e lo Lo) (h2 : OptRel e hi Hi) (h3 : OptRel e mx Mx)
    (hne : mx ≠ none → hi ≠ none) {k : AVal → Option β} {r : β} (h : aslice T t x lo hi mx k = some r) :
    ∃ a, k a = some r ∧ ∃ v, VRel e a v ∧ ∀ w, (Instr.sliceAt t X Lo Hi Mx).run P w = .ok v w := by
  unfold aslice at h
  split at h
  · -- an array
    rename_i n el id off hu
    simp only [VRel] at hx
    obtain ⟨p, hp, rfl⟩ := hx
    split at h
    · rename_i s hs
      obtain ⟨m, hh, l, hk, m1, a1, b1, b2, a2, m2, hrun⟩ := bounds_ok (P := P) h1 h2 h3 false hne h
      simp only [natK_eq] at hk
      have hlm : l ≤ m ∧ hh ≤ m ∧ l ≤ hh := by
        by_cases n1 : mx = none <;> by_cases n2 : hi = none <;> by_cases n3 : lo = none <;> simp_all <;> omega
      refine ⟨_, hk, .slice (some ⟨p.blk, p.base + (bif Nat.beq m l then off else off + l * s), none⟩) (hh - l) (m - l), by simp only [VRel]; exact ⟨p, _, hp, ⟨rfl, by omega⟩, rfl⟩, fun w => ?_⟩
      simp [Instr.sliceAt, run_und hT hu, Instr.sureAddr, hrun, run_size hT hs]
      by_cases e1 : m = l
      · simp [e1]
      · simp [e1, beq_nat_false.2 e1, add_none]; omega
    · cases h
  · -- a string
    rename_i s hu
    simp only [VRel] at hx
    obtain ⟨rfl, hs⟩ := hx
    split at h
    · rw [lenK_eq] at h
      simp only [Nat.zero_add] at h
      have h3' : OptRel e (none : Option AVal) (none : Option Value) := trivial
      have hM : Mx = none := by cases Mx with | none => rfl | some v => exact h3.elim
      subst hM
      obtain ⟨m, hh, l, hk, m1, a1, b1, b2, a2, m2, hrun⟩ := bounds_ok (P := P) (k := fun m hh l => takeK (hh - l) (s.drop l) fun r => k (.str r)) (mx := none) (Mx := none) (cap := s.length) h1 h2 h3' false (by simp)
        (by simpa [abound] using h)
      rw [takeK_eq] at hk
      have := m1 rfl
      subst this
      refine ⟨_, hk, .string ((toBytes s).extract l hh), ?_, fun w => ?_⟩
      · rw [extract_bytes hT]
        exact VRel.rstr e fun b hb => hs b (List.mem_of_mem_drop (List.mem_of_mem_take hb))
      · have hrun' := hrun w
        simp [Instr.sliceAt, run_und hT hu, Instr.slice, toBytes_size, hrun']
    · cases h
  · -- a slice, its capacity known
    rename_i el id off len c hu
    simp only [VRel] at hx
    obtain ⟨p, n, hp, ⟨rfl, hlc⟩, rfl⟩ := hx
    split at h
    · rename_i s hs
      obtain ⟨m, hh, l, hk, m1, a1, b1, b2, a2, m2, hrun⟩ := bounds_ok (P := P) h1 h2 h3 true hne h
      simp only [natK_eq] at hk
      have hlm : l ≤ m ∧ hh ≤ m ∧ l ≤ hh := by
        by_cases n1 : mx = none <;> by_cases n2 : hi = none <;> by_cases n3 : lo = none <;> simp_all <;> omega
      refine ⟨_, hk, .slice (some ⟨p.blk, p.base + (bif Nat.beq m l then off else off + l * s), none⟩) (hh - l) (m - l), by simp only [VRel]; exact ⟨p, _, hp, ⟨rfl, by omega⟩, rfl⟩, fun w => ?_⟩
      simp [Instr.sliceAt, run_und hT hu, Instr.slice, hrun, run_size hT hs]
      by_cases e1 : m = l
      · simp [e1]
      · simp [e1, beq_nat_false.2 e1, add_none]; omega
    · cases h
  · -- a slice, its capacity unknown
    rename_i el id off len eo hu
    simp only [VRel] at hx
    obtain ⟨p, n, hp, ⟨rfl, hlc⟩, rfl⟩ := hx
    split at h
    · rename_i s hs
      have h3' : OptRel e (none : Option AVal) (none : Option Value) := trivial
      have hM : Mx = none := by cases Mx with | none => rfl | some v => exact h3.elim
      subst hM
      obtain ⟨m, hh, l, hk, q1, q2, q3, q4, hrun⟩ := bounds_len (P := P) (len := len) (cap := p.cap - eo) (mx := none) (Mx := none)
        (k := fun m h l => bif Nat.beq l 0 || Nat.blt l len then natK (off + l * s) fun o => natK (h - l) fun len => natK (eo + l) fun eo => k (.slice id o len (.u eo)) else none) h1 h2 h3' (by omega) (by simp) (by simpa [abound] using h)
      have hml := q4 rfl
      clear q4
      cases hc : (Nat.beq l 0 || Nat.blt l len) with
      | false => rw [hc] at hk; cases hk
      | true =>
        rw [hc] at hk
        simp only [cond_true, natK_eq] at hk
        refine ⟨_, hk, .slice (some ⟨p.blk, p.base + (off + l * s), none⟩) (hh - l) (p.cap - (eo + l)), by simp only [VRel]; exact ⟨p, _, hp, ⟨rfl, by omega⟩, rfl⟩, fun w => ?_⟩
        have hrun' := hrun w
        simp only [Option.isSome_none, Bool.false_eq_true, if_false] at hrun'
        simp [Instr.sliceAt, run_und hT hu, Instr.slice, hrun', run_size hT hs]
        have hc' : l = 0 ∨ l < len := by
          rcases (Bool.or_eq_true ..).mp hc with hc | hc
          · exact .inl (beq_nat.1 hc)
          · exact .inr (blt_nat.1 hc)
        refine ⟨?_, by omega⟩
        by_cases e1 : p.cap - eo = l
        · have : l = 0 := by omega
          subst this
          simp [e1]
        · simp [e1, add_none]; omega
    · rename_i s mx' hs
      obtain ⟨m, hh, l, hk, q1, q2, q3, q4, hrun⟩ := bounds_len (P := P) (cap := p.cap - eo) h1 h2 h3 (by omega) hne h
      simp only [natK_eq] at hk
      refine ⟨_, hk, .slice (some ⟨p.blk, p.base + (bif Nat.beq m l then off else off + l * s), none⟩) (hh - l) (m - l), by simp only [VRel]; exact ⟨p, _, hp, ⟨rfl, by omega⟩, rfl⟩, fun w => ?_⟩
      have hrun' := hrun w
      simp only [Option.isSome_some, if_true] at hrun'
      simp [Instr.sliceAt, run_und hT hu, Instr.slice, hrun', run_size hT hs]
      by_cases e1 : m = l
      · simp [e1]
      · simp [e1, beq_nat_false.2 e1, add_none]; omega
    · cases h
  · rename_i el hu
    simp only [VRel] at hx; subst hx
    obtain ⟨m, hh, l, hk, m1, a1, b1, b2, a2, m2, hrun⟩ := bounds_ok (P := P) (k := fun _ _ _ => bif (T.size el).isSome then k .nils else none) h1 h2 h3 true hne h
    have hlm : l = 0 ∧ hh = 0 ∧ m = 0 := by
      by_cases n1 : mx = none <;> by_cases n2 : hi = none <;> by_cases n3 : lo = none <;> simp_all <;> omega
    obtain ⟨rfl, rfl, rfl⟩ := hlm
    cases hs : T.size el with
    | none => rw [hs] at hk; cases hk
    | some s =>
    rw [hs] at hk
    simp only [Option.isSome_some, cond_true] at hk
    refine ⟨_, hk, .slice none 0 0, by simp only [VRel], fun w => ?_⟩
    simp [Instr.sliceAt, run_und hT hu, Instr.slice, hrun, run_size hT hs]
  · cases h
end
end Go.Proofs.YtplgnjpeikamhaaGreatDoor.Xec

namespace Go.Proofs.YtplgnjpeikamhaaGreatDoor.Xec
variable {α β : Type}

/-! ### Keys -/
theorem plain1_det {e : Env} {a : AVal} {v u : Value} (ha : plain1 a = true) (h : VRel e a v) (h' : VRel e a u) : v = u := by
  cases a <;> simp [plain1] at ha <;> simp only [VRel] at h h'
  · rw [h, h']
  · rw [h, h']
  · rw [h.1, h'.1]
theorem plains_det {e : Env} : ∀ {l : List AVal} {vs us : List Value}, l.all plain1 = true → VRels e l vs → VRels e l us → vs = us
  | [], _, _, _, h, h' => by rw [h.nil, h'.nil]
  | a :: l, _, _, ha, h, h' => by
    simp only [List.all_cons, Bool.and_eq_true] at ha
    obtain ⟨v, r, rfl, hv, hr⟩ := h.cons
    obtain ⟨u, s, rfl, hu, hs⟩ := h'.cons
    rw [plain1_det ha.1 hv hu, plains_det ha.2 hr hs]
theorem plainEq1_eq {a b : AVal} (h : plainEq1 a b = true) : a = b ∧ plain1 a = true := by
  unfold plainEq1 at h
  split at h
  · rename_i x y
    exact ⟨by cases x <;> cases y <;> simp at h ⊢, rfl⟩
  · simp only [Bool.and_eq_true, decide_eq_true_eq] at h
    exact ⟨by rw [h.1, intEq_iff.1 h.2], rfl⟩
  · exact ⟨by rw [natsEq_iff.1 h], rfl⟩
  · cases h
theorem plainEqs_eq : ∀ {l r : List AVal}, plainEqs l r = true → l = r ∧ l.all plain1 = true
  | [], [], _ => ⟨rfl, rfl⟩
  | [], _ :: _, h => by simp [plainEqs] at h
  | _ :: _, [], h => by simp [plainEqs] at h
  | a :: l, b :: r, h => by
    simp only [plainEqs, Bool.and_eq_true] at h
    obtain ⟨h1, h2⟩ := plainEq1_eq h.1
    obtain ⟨h3, h4⟩ := plainEqs_eq h.2
    exact ⟨by rw [h1, h3], by simp only [List.all_cons, Bool.and_eq_true]; exact ⟨h2, h4⟩⟩
theorem plainEq_det {e : Env} {a b : AVal} {v u : Value} (h : plainEq a b = true) (ha : VRel e a v) (hb : VRel e b u) : v = u := by
  unfold plainEq at h
  split at h
  · obtain ⟨h1, h2⟩ := plainEqs_eq h
    subst h1
    simp only [VRel] at ha hb
    obtain ⟨vs, hv, rfl⟩ := ha
    obtain ⟨us, hu, rfl⟩ := hb
    rw [plains_det h2 hv hu]
  · obtain ⟨h1, h2⟩ := plainEq1_eq h
    subst h1
    exact plain1_det h2 ha hb

/-- values whose bits are seen -/
def bitsPlain : Value → Bool
  | .bool _ => true
  | .int _ _ => true
  | .string _ => true
  | _ => false
theorem ba_beq (a b : ByteArray) : (a == b) = true ↔ a = b := by
  obtain ⟨x⟩ := a
  obtain ⟨y⟩ := b
  constructor
  · intro h
    have e : x = y := by simpa using (show (x == y) = true from h)
    rw [e]
  · intro h
    cases h
    show (x == x) = true
    simp
theorem ba_beq_nats {a c : List Nat} (hx : ∀ b ∈ a, b < 256) (hy : ∀ b ∈ c, b < 256) : (toBytes a == toBytes c) = natsEq a c := by
  cases h : natsEq a c with
  | true => rw [natsEq_iff.1 h]; exact (ba_beq _ _).2 rfl
  | false =>
    cases h2 : (toBytes a == toBytes c) with
    | false => rfl
    | true =>
      exfalso
      have h3 := congrArg ByteArray.toList ((ba_beq _ _).1 h2)
      rw [ByteArray_toList, ByteArray_toList] at h3
      exact natsEq_false.1 h (toBytes_inj hx hy h3)
theorem sameBits_self {n : Nat} {v : Value} (h : bitsPlain v = true) : Instr.sameBits n v v = true := by
  cases v <;> simp [bitsPlain] at h <;> simp [Instr.sameBits, (ba_beq _ _).2 rfl]
theorem sameBits_agg {n : Nat} {vs : List Value} (h : ∀ v ∈ vs, bitsPlain v = true) : Instr.sameBits (n + 1) (.agg vs.toArray) (.agg vs.toArray) = true := by
  simp only [Instr.sameBits, beq_self_eq_true, Bool.true_and]
  rw [List.all_eq_true]
  intro x hx
  have : x.1 = x.2 ∧ x.1 ∈ vs := by
    obtain ⟨i, hi, rfl⟩ := List.mem_iff_getElem.1 hx
    simp at hi
    simp
  obtain ⟨a, b⟩ := x
  obtain ⟨h1, h2⟩ := this
  simp only at h1 h2
  subst h1
  exact sameBits_self (h _ h2)
theorem plain1_bits {e : Env} {a : AVal} {v : Value} (ha : plain1 a = true) (h : VRel e a v) : bitsPlain v = true := by
  cases a <;> simp [plain1] at ha <;> simp only [VRel] at h
  · subst h; rfl
  · subst h; rfl
  · rw [h.1]; rfl
theorem plains_bits {e : Env} : ∀ {l : List AVal} {vs : List Value}, l.all plain1 = true → VRels e l vs → ∀ v ∈ vs, bitsPlain v = true
  | [], _, _, h => by rw [h.nil]; intro v hv; cases hv
  | a :: l, _, ha, h => by
    simp only [List.all_cons, Bool.and_eq_true] at ha
    obtain ⟨v, r, rfl, hv, hr⟩ := h.cons
    intro u hu
    rcases List.mem_cons.1 hu with rfl | hu
    · exact plain1_bits ha.1 hv
    · exact plains_bits ha.2 hr u hu
theorem keyStays {P : Program} {T : Tab} {e : Env} {t : TypeId} {key : AVal} {K : Value} (hf : keyFits T t key = true) (hK : VRel e key K) (w : World) : (Instr.keyThatStays K K).run P w = .ok K w := by
  have hb : Instr.sameBits 10000 K K = true := by
    unfold keyFits at hf
    split at hf
    · simp only [VRel] at hK; subst hK; exact sameBits_self rfl
    · simp only [VRel] at hK; rw [hK.1]; exact sameBits_self rfl
    · simp only [VRel] at hK; subst hK; exact sameBits_self rfl
    · simp only [Bool.and_eq_true] at hf
      simp only [VRel] at hK
      obtain ⟨vs, hv, rfl⟩ := hK
      exact sameBits_agg (plains_bits hf.2 hv)
    · cases hf
  unfold Instr.keyThatStays
  rw [hb]
  rfl

/-- the place of the first entry with that key -/
def idxK (T : Tab) (t : TypeId) (key : AVal) : List AEnt → Nat
  | [] => 0
  | en :: es => match aequal T 20 t key en.key with
    | some true => 0
    | _ => idxK T t key es + 1

section
variable {P : Program} {T : Tab} (hT : TabOk P T) {e : Env}
include hT

theorem scalar_check {t : TypeId} (h : scalarT T t = true) {n : Nat} {v : Value} {empty : Bool} (w : World) : (Instr.checkKey empty (n + 1) t v).run P w = .ok () w := by
  unfold scalarT at h
  split at h
  · rename_i hu; unfold Instr.checkKey; simp [run_und hT hu]
  · rename_i hu; unfold Instr.checkKey; simp [run_und hT hu]
  · rename_i hu; unfold Instr.checkKey; simp [run_und hT hu]
  · cases h

theorem check_ok {t : TypeId} {key : AVal} {K : Value} (hf : keyFits T t key = true) (hK : VRel e key K) (empty : Bool) (w : World) : (Instr.checkKey empty 10000 t K).run P w = .ok () w := by
  have main : ∀ n, (Instr.checkKey empty (n + 1 + 1) t K).run P w = .ok () w := by
    intro n
    unfold keyFits at hf
    split at hf
    · rename_i hu; exact scalar_check hT (by unfold scalarT; rw [hu]) w
    · rename_i hu; exact scalar_check hT (by unfold scalarT; rw [hu]) w
    · rename_i hu; exact scalar_check hT (by unfold scalarT; rw [hu]) w
    · rename_i fs l hu
      simp only [Bool.and_eq_true] at hf
      simp only [VRel] at hK
      obtain ⟨vs, hv, rfl⟩ := hK
      unfold Instr.checkKey
      simp only [Sem.run_bind, run_und hT hu, Result.andThen_ok]
      rw [← Array.forIn_toList]
      have hall := hf.1.2
      revert hall
      generalize fs.toList = ls
      intro hall
      induction ls with
      | nil => simp
      | cons f ls ih =>
        simp only [List.all_cons, Bool.and_eq_true] at hall
        simp only [List.forIn_cons]
        obtain ⟨a, ha⟩ := Option.isSome_iff_exists.1 hall.1.2
        obtain ⟨A, hA, _⟩ := part_ok hT hv ha w
        by_cases hn : f.name = "_"
        · simp [hn]; simpa using ih hall.2
        · simp [hn, hA, scalar_check hT hall.1.1]; simpa using ih hall.2
    · cases hf
  exact main 9998

/-- a scalar key against an entry's -/
theorem sameNow_ok {t : TypeId} {d : TypeDesc} {key x : AVal} {K X : Value} {b : Bool} (hu : T.und t = some d) (hs : scalarT T t = true) (hf : keyFits T t key = true) (hK : VRel e key K) (hX : VRel e x X) (h : aequal T 20 t key x = some b) : Instr.sameNow d K X = some b := by
  unfold keyFits at hf
  unfold scalarT at hs
  rw [hu] at hf hs
  unfold aequal at h
  rw [hu] at h
  split at hf
  · rename_i kd k n hd
    cases hd
    cases x <;> (try (cases h; done))
    rename_i k' c
    simp only at h
    simp only [VRel] at hK hX
    subst hK; subst hX
    cases hk : decide (k = k') with
    | false => rw [hk] at h; cases h
    | true =>
      rw [hk] at h
      have := of_decide_eq_true hk
      subst this
      simp only [cond_true, Option.some.injEq] at h
      simp [Instr.sameNow, ← h, intEq_beq]
  · rename_i a hd
    cases hd
    cases x <;> (try (cases h; done))
    rename_i c
    simp only [Option.some.injEq] at h
    simp only [VRel] at hK hX
    obtain ⟨rfl, hK⟩ := hK
    obtain ⟨rfl, hX⟩ := hX
    rw [← h, ← ba_beq_nats hK hX]; rfl
  · rename_i a hd
    cases hd
    cases x <;> (try (cases h; done))
    rename_i c
    simp only [Option.some.injEq] at h
    simp only [VRel] at hK hX
    subst hK; subst hX
    rw [← h]
    cases a <;> cases c <;> rfl
  · rename_i fs l hd
    cases hd
    simp at hs
  · cases hf

theorem findNow_ok {t : TypeId} {d : TypeDesc} {key : AVal} {K : Value} (hu : T.und t = some d) (hs : scalarT T t = true) (hf : keyFits T t key = true) (hK : VRel e key K) {es : List AEnt} {xs : List MapEntry} (hE : EntsRel e es xs) :
    ∀ (i : Nat) (res : Option AEnt), findK T t key es = some res → match res with
      | none => Instr.findNow d K xs i = some none
      | some en => ∃ x, es[idxK T t key es]? = some en ∧ xs[idxK T t key es]? = some x ∧ Instr.findNow d K xs i = some (some (i + idxK T t key es, x.val)) := by
  induction hE with
  | nil => intro i res h; simp [findK] at h; subst h; rfl
  | @cons en0 x0 l0 xs0 h1 h2 h3 _ ih =>
    intro i res h
    unfold findK at h
    split at h
    · rename_i hq
      cases h
      have := sameNow_ok hT hu hs hf hK h1 hq
      exact ⟨x0, by simp [idxK, hq], by simp [idxK, hq], by simp [Instr.findNow, this, idxK, hq]⟩
    · rename_i hq
      have := sameNow_ok hT hu hs hf hK h1 hq
      have h' := ih (i + 1) res h
      cases res with
      | none => simp only at h' ⊢; simp [Instr.findNow, this, h']
      | some en =>
        obtain ⟨x, a1, a2, a3⟩ := h'
        exact ⟨x, by simpa [idxK, hq] using a1, by simpa [idxK, hq] using a2, by simp [Instr.findNow, this, a3, idxK, hq, Nat.add_assoc, Nat.add_comm 1]⟩
    · cases h

theorem findAsking_ok {t : TypeId} {key : AVal} {K : Value} (hK : VRel e key K) {es : List AEnt} {xs : List MapEntry} (hE : EntsRel e es xs) (w : World) :
    ∀ (i : Nat) (res : Option AEnt), findK T t key es = some res → match res with
      | none => (Instr.findAsking t K xs i).run P w = .ok none w
      | some en => ∃ x, es[idxK T t key es]? = some en ∧ xs[idxK T t key es]? = some x ∧ (Instr.findAsking t K xs i).run P w = .ok (some (i + idxK T t key es, x.val)) w := by
  induction hE with
  | nil => intro i res h; simp [findK] at h; subst h; rfl
  | @cons en0 x0 l0 xs0 h1 h2 h3 _ ih =>
    intro i res h
    unfold findK at h
    split at h
    · rename_i hq
      cases h
      have := aequal_ok hT 20 _ _ _ _ _ _ hq hK h1 Op.maxDepth w (by decide)
      exact ⟨x0, by simp [idxK, hq], by simp [idxK, hq], by simp [Instr.findAsking, Op.equal, this, idxK, hq]⟩
    · rename_i hq
      have := aequal_ok hT 20 _ _ _ _ _ _ hq hK h1 Op.maxDepth w (by decide)
      have h' := ih (i + 1) res h
      cases res with
      | none => simp only at h' ⊢; simp [Instr.findAsking, Op.equal, this, h']
      | some en =>
        obtain ⟨x, a1, a2, a3⟩ := h'
        exact ⟨x, by simpa [idxK, hq] using a1, by simpa [idxK, hq] using a2, by simp [Instr.findAsking, Op.equal, this, a3, idxK, hq, Nat.add_assoc, Nat.add_comm 1]⟩
    · cases h

theorem find_ok {t : TypeId} {key : AVal} {K : Value} (hf : keyFits T t key = true) (hK : VRel e key K) {es : List AEnt} {xs : List MapEntry} (hE : EntsRel e es xs) (w : World) {res : Option AEnt} (h : findK T t key es = some res) :
    match res with
      | none => (Instr.findKey t K xs).run P w = .ok none w
      | some en => ∃ x, es[idxK T t key es]? = some en ∧ xs[idxK T t key es]? = some x ∧ (Instr.findKey t K xs).run P w = .ok (some (idxK T t key es, x.val)) w := by
  cases hu : T.und t with
  | none => unfold keyFits at hf; rw [hu] at hf; cases hf
  | some d =>
    by_cases hs : scalarT T t = true
    · have h' := findNow_ok hT hu hs hf hK hE 0 res h
      cases res with
      | none => simp only at h' ⊢; simp [Instr.findKey, run_und hT hu, h']
      | some en =>
        obtain ⟨x, a1, a2, a3⟩ := h'
        exact ⟨x, a1, a2, by simp [Instr.findKey, run_und hT hu, a3]⟩
    · have hst : ∃ fs, d = .struct fs := by
        unfold keyFits at hf
        unfold scalarT at hs
        rw [hu] at hf hs
        cases d <;> simp at hs hf ⊢
      obtain ⟨fs, rfl⟩ := hst
      have h' := findAsking_ok hT hK hE w 0 res h
      have hno : ∀ i, xs ≠ [] → Instr.findNow (.struct fs) K xs i = none := fun i hne => by
        cases xs with
        | nil => exact (hne rfl).elim
        | cons x xs => simp [Instr.findNow, Instr.sameNow]
      by_cases hne : xs = []
      · subst hne
        cases hE
        simp [findK] at h
        subst h
        simp [Instr.findKey, run_und hT hu, Instr.findNow]
      · cases res with
        | none => simp only at h' ⊢; simp [Instr.findKey, run_und hT hu, hno 0 hne, h']
        | some en =>
          obtain ⟨x, a1, a2, a3⟩ := h'
          exact ⟨x, a1, a2, by simp [Instr.findKey, run_und hT hu, hno 0 hne, a3]⟩
end
end Go.Proofs.YtplgnjpeikamhaaGreatDoor.Xec

namespace Go.Proofs.YtplgnjpeikamhaaGreatDoor.Xec
variable {α β : Type}

theorem EntsRel.get {e : Env} {es : List AEnt} {xs : List MapEntry} (h : EntsRel e es xs) : ∀ {i : Nat} {en : AEnt} {x : MapEntry}, es[i]? = some en → xs[i]? = some x → VRel e en.key x.key ∧ VRel e en.val x.val ∧ x.born = en.born := by
  induction h with
  | nil => intro i en x h; simp at h
  | cons h1 h2 h3 _ ih =>
    intro i en x hi hx
    cases i with
    | zero => simp at hi hx; subst hi; subst hx; exact ⟨h1, h2, h3⟩
    | succ i => exact ih (by simpa using hi) (by simpa using hx)
theorem EntsRel.length {e : Env} {es : List AEnt} {xs : List MapEntry} (h : EntsRel e es xs) : xs.length = es.length := by
  induction h with
  | nil => rfl
  | cons _ _ _ _ ih => simp [ih]
theorem EntsRel.snoc {e : Env} {es : List AEnt} {xs : List MapEntry} (h : EntsRel e es xs) {a : AEnt} {x : MapEntry} (h1 : VRel e a.key x.key) (h2 : VRel e a.val x.val) (h3 : x.born = a.born) : EntsRel e (es ++ [a]) (xs ++ [x]) := by
  induction h with
  | nil => exact .cons h1 h2 h3 .nil
  | cons g1 g2 g3 _ ih => exact .cons g1 g2 g3 ih
theorem EntsRel.set {e : Env} {es : List AEnt} {xs : List MapEntry} (h : EntsRel e es xs) {a : AEnt} {x : MapEntry} (h1 : VRel e a.key x.key) (h2 : VRel e a.val x.val) (h3 : x.born = a.born) : ∀ (i : Nat), EntsRel e (es.set i a) (xs.set i x) := by
  induction h with
  | nil => intro i; exact .nil
  | cons g1 g2 g3 g4 ih =>
    intro i
    cases i with
    | zero => exact .cons h1 h2 h3 g4
    | succ i => exact .cons g1 g2 g3 (ih i)
theorem EntsRel.erase {e : Env} {es : List AEnt} {xs : List MapEntry} (h : EntsRel e es xs) : ∀ (i : Nat), EntsRel e (es.eraseIdx i) (xs.eraseIdx i) := by
  induction h with
  | nil => intro i; exact .nil
  | cons g1 g2 g3 g4 ih =>
    intro i
    cases i with
    | zero => exact g4
    | succ i => exact .cons g1 g2 g3 (ih i)

/-- **A block that is no row of cells is turned.** -/
theorem Rel.setObj {P : Program} {T : Tab} {F : Nat → Prop} {e : Env} {m m' : AMem} {w : World} (h : Rel T F e m w) {id : Nat} {b0 b1 : ABlk} {p : Plc} {ob ob' : Obj}
    (h0 : m.blks.get id = some b0) (hp : e.pl id = some p) (hg0 : b0.grp = none) (hgb0 : b0.gb = 0) (hg1 : b1.grp = none) (hgb1 : b1.gb = 0) (hn : m'.next = m.next) (hgr : m'.grps = m.grps) (hget : ∀ i, m'.blks.get i = if i = id then some b1 else m.blks.get i)
    (hob : w.heap[p.blk]? = some ob) (hnc : ∀ c el fr, ob ≠ .cells c el fr) (hr : ∀ heap : Array Obj, heap[p.blk]? = some ob' → Real T e heap p b1) :
    (setObj p.blk ob').run P w = .ok () { w with heap := w.heap.setIfInBounds p.blk ob' } ∧ Rel T F e m' { w with heap := w.heap.setIfInBounds p.blk ob' } ∧ Keep F w { w with heap := w.heap.setIfInBounds p.blk ob' } := by
  have hlt : p.blk < w.heap.size := by
    rcases Nat.lt_or_ge p.blk w.heap.size with hlt | hge
    · exact hlt
    · simp [Array.getElem?_eq_none hge] at hob
  refine ⟨?_, ?_⟩
  · cases ob <;> first | exact (hnc _ _ _ rfl).elim | simp [Go.setObj, Sem.run, hob]
  · refine h.upd h0 hp hn hgr (by rw [hget]; simp) (fun j hj => by rw [hget, if_neg hj]; exact .inl rfl) (by rw [hg0, hg1]) (by rw [hgb0, hgb1]) (fun b hb => by simp [Ne.symm hb]) (by simp)
      (hr _ (by simp [hlt])) (fun j q b hj hb hq hqp => ?_) rfl rfl rfl
    rw [hget, if_neg hj] at hb
    obtain ⟨g, h1, _⟩ := h.sep id j p q b0 b (Ne.symm hj) h0 hb hp hq hqp.symm
    rw [hg0] at h1; cases h1

theorem run_getObj {P : Program} {w : World} {r : Nat} {ob : Obj} (h : w.heap[r]? = some ob) (hnc : ∀ c el fr, ob ≠ .cells c el fr) : (getObj r).run P w = .ok ob w := by
  cases ob <;> first | exact (hnc _ _ _ rfl).elim | simp [getObj, Sem.run, h]

theorem AMem.get_blks (m : AMem) (id : Nat) : m.get id = m.blks.get id := by obtain ⟨_, _, _⟩ := m; rfl

def DidU (P : Program) (T : Tab) (F : Nat → Prop) (e : Env) (m : AMem) (w : World) (s : Sem Unit) (m' : AMem) : Prop :=
  ∃ w', s.run P w = .ok () w' ∧ Rel T F e m' w' ∧ m'.next = m.next ∧ Keep F w w'

section
variable {P : Program} {T : Tab} (hT : TabOk P T) {F : Nat → Prop} {e : Env} {m : AMem} {w : World} (hR : Rel T F e m w)
include hT hR

omit hT in
theorem entsOf_ok {x : AVal} {X : Value} {es : List AEnt} (h : entsOf m x = some es) (hx : VRel e x X) :
    ∃ xs : Array MapEntry, EntsRel e es xs.toList ∧ ((X = .map none ∧ xs = #[]) ∨ ∃ r c, X = .map (some r) ∧ w.heap[r]? = some (.map xs c)) := by
  unfold entsOf at h
  split at h
  · cases h
    simp only [VRel] at hx; subst hx
    exact ⟨#[], .nil, .inl ⟨rfl, rfl⟩⟩
  · simp only [VRel] at hx
    obtain ⟨p, hp, rfl⟩ := hx
    split at h
    · rename_i es' c hb
      cases h
      rw [AMem.get_blks] at hb
      obtain ⟨xs, h1, h2⟩ := hR.real _ _ p hb hp
      exact ⟨xs, h2, .inr ⟨_, _, rfl, h1⟩⟩
    · cases h
  · cases h

omit hR in
theorem lookup_some {t kt et : TypeId} {X K : Value} {ok : Bool} {xs : Array MapEntry} (hu : T.und t = some (.map kt et)) (hX : (X = .map none ∧ xs = #[]) ∨ ∃ r c, X = .map (some r) ∧ w.heap[r]? = some (.map xs c))
    (h1 : (Instr.checkKey xs.isEmpty 10000 kt K).run P w = .ok () w) {i : Nat} {V : Value} (h2 : (Instr.findKey kt K xs.toList).run P w = .ok (some (i, V)) w) :
    (Instr.lookup t X K ok).run P w = .ok (if ok then .tuple #[V, .bool true] else V) w := by
  unfold Instr.lookup
  rw [Sem.run_bind, run_und hT hu, Result.andThen_ok]
  rcases hX with ⟨rfl, rfl⟩ | ⟨r, c, rfl, hc⟩
  · simp only [Sem.run_bind, Sem.run_pure, Result.andThen_ok]
    rw [h1, Result.andThen_ok, h2, Result.andThen_ok]
    rfl
  · simp only [Sem.run_bind, run_getObj (P := P) hc (by simp), Result.andThen_ok, Sem.run_pure]
    rw [h1, Result.andThen_ok, h2, Result.andThen_ok]
    rfl

omit hR in
theorem lookup_none {t kt et : TypeId} {X K : Value} {ok : Bool} {xs : Array MapEntry} (hu : T.und t = some (.map kt et)) (hX : (X = .map none ∧ xs = #[]) ∨ ∃ r c, X = .map (some r) ∧ w.heap[r]? = some (.map xs c))
    (h1 : (Instr.checkKey xs.isEmpty 10000 kt K).run P w = .ok () w) {Z : Value} (h2 : (Instr.findKey kt K xs.toList).run P w = .ok none w) (hz : (zeroValue et).run P w = .ok Z w) :
    (Instr.lookup t X K ok).run P w = .ok (if ok then .tuple #[Z, .bool false] else Z) w := by
  unfold Instr.lookup
  rw [Sem.run_bind, run_und hT hu, Result.andThen_ok]
  rcases hX with ⟨rfl, rfl⟩ | ⟨r, c, rfl, hc⟩
  · simp only [Sem.run_bind, Sem.run_pure, Result.andThen_ok]
    rw [h1, Result.andThen_ok, h2, Result.andThen_ok]
    simp only [Sem.run_bind, hz, Result.andThen_ok, Sem.run_pure]
  · simp only [Sem.run_bind, run_getObj (P := P) hc (by simp), Result.andThen_ok, Sem.run_pure]
    rw [h1, Result.andThen_ok, h2, Result.andThen_ok]
    simp only [Sem.run_bind, hz, Result.andThen_ok, Sem.run_pure]

theorem alookup_ok {t : TypeId} {x key : AVal} {X K : Value} {ok : Bool} {k : AVal → Option β} {r : β} (h : alookup T t x key ok m k = some r) (hx : VRel e x X) (hK : VRel e key K) :
    ∃ a, k a = some r ∧ ∃ v, VRel e a v ∧ (Instr.lookup t X K ok).run P w = .ok v w := by
  unfold alookup at h
  split at h
  · rename_i kt et hu
    cases hf : keyFits T kt key with
    | false => rw [hf] at h; cases h
    | true =>
      rw [hf] at h
      simp only [cond_true] at h
      split at h
      · rename_i es hes
        obtain ⟨xs, hE, hX⟩ := entsOf_ok hR hes hx
        split at h
        · rename_i en hfd
          obtain ⟨x', a1, a2, a3⟩ := find_ok hT hf hK hE w hfd
          obtain ⟨_, hv, _⟩ := hE.get a1 a2
          refine ⟨_, h, if ok then .tuple #[x'.val, .bool true] else x'.val, ?_, lookup_some hT hu hX (check_ok hT hf hK _ w) a3⟩
          cases ok
          · simpa using hv
          · simp only [cond_true, if_true, VRel]
            exact ⟨[x'.val, .bool true], VRels.mk_cons hv (VRels.mk_cons (VRel.rbool ..) (VRels.mk_nil e)), rfl⟩
        · rename_i hfd
          have a3 := find_ok hT hf hK hE w hfd
          simp only at a3
          split at h
          · rename_i z hz
            obtain ⟨Z, hZ, hzr, _⟩ := run_zero hT hz w
            refine ⟨_, h, if ok then .tuple #[Z, .bool false] else Z, ?_, lookup_none hT hu hX (check_ok hT hf hK _ w) a3 hZ⟩
            cases ok
            · simpa using hzr e
            · simp only [cond_true, if_true, VRel]
              exact ⟨[Z, .bool false], VRels.mk_cons (hzr e) (VRels.mk_cons (VRel.rbool ..) (VRels.mk_nil e)), rfl⟩
          · cases h
        · cases h
      · cases h
  · cases h

omit hT hR in
theorem putEntK_some {t : TypeId} {key val : AVal} {miss : Option β} {r : β} : ∀ (es : List AEnt) (hit : List AEnt → Option β), putEntK T t key val es hit miss = some r →
    (findK T t key es = some none ∧ miss = some r) ∨ ∃ en, findK T t key es = some (some en) ∧ plainEq en.key key = true ∧ hit (es.set (idxK T t key es) ⟨key, val, en.born⟩) = some r := by
  intro es
  induction es with
  | nil => intro hit h; exact .inl ⟨rfl, h⟩
  | cons en es ih =>
    intro hit h
    unfold putEntK at h
    split at h
    · rename_i hq
      cases hp : plainEq en.key key with
      | false => rw [hp] at h; cases h
      | true =>
        rw [hp] at h
        exact .inr ⟨en, by simp [findK, hq], hp, by simpa [idxK, hq] using h⟩
    · rename_i hq
      rcases ih _ h with ⟨h1, h2⟩ | ⟨en', h1, h2, h3⟩
      · exact .inl ⟨by simp [findK, hq, h1], h2⟩
      · exact .inr ⟨en', by simp [findK, hq, h1], h2, by simpa [idxK, hq] using h3⟩
    · cases h

omit hT hR in
theorem modify_set {xs : Array MapEntry} {i : Nat} {x : MapEntry} {f : MapEntry → MapEntry} (h : xs.toList[i]? = some x) : (xs.modify i f).toList = xs.toList.set i (f x) := by
  apply List.ext_getElem?
  intro j
  rw [Array.getElem?_toList, Array.getElem?_modify, List.getElem?_set]
  have hi : i < xs.toList.length := (List.getElem?_eq_some_iff.1 h).1
  by_cases e1 : i = j
  · subst e1
    rw [Array.getElem?_toList] at h
    simp only [Array.length_toList] at hi
    simp [h, hi]
    rw [Array.getElem?_eq_getElem hi] at h
    cases h; rfl
  · simp [e1]

theorem aupdate_ok {t : TypeId} {x key val : AVal} {X K V : Value} {k : AMem → Option β} {r : β} (h : aupdate T t x key val m k = some r) (hx : VRel e x X) (hK : VRel e key K) (hV : VRel e val V) :
    ∃ m', k m' = some r ∧ DidU P T F e m w (Instr.mapUpdate t X K V) m' := by
  unfold aupdate at h
  split at h
  · rename_i kt et id hu
    simp only [VRel] at hx
    obtain ⟨p, hp, rfl⟩ := hx
    cases hf : keyFits T kt key with
    | false => rw [hf] at h; cases h
    | true =>
      rw [hf] at h
      simp only [cond_true] at h
      split at h
      · rename_i es c hb
        rw [AMem.get_blks] at hb
        obtain ⟨xs, hc, hE⟩ := hR.real _ _ p hb hp
        rcases putEntK_some _ _ h with ⟨h1, h2⟩ | ⟨en, h1, h2, h3⟩
        · rw [appK_eq, natK_eq] at h2
          obtain ⟨m', hk, hn, hg, hget⟩ := setBlkK_some h2
          have a3 := find_ok hT hf hK hE w h1
          simp only at a3
          obtain ⟨b1, b2, b3⟩ := hR.setObj (P := P) (m' := m') (b1 := .map (es ++ [⟨key, val, c⟩]) (c + 1)) (ob' := .map (xs.push { key := K, val := V, born := c }) (c + 1)) hb hp rfl rfl rfl rfl hn hg hget hc (by simp)
            (fun heap hh => ⟨_, hh, by simpa using hE.snoc (a := ⟨key, val, c⟩) (x := { key := K, val := V, born := c }) hK hV rfl⟩)
          refine ⟨m', hk, _, ?_, b2, hn, b3⟩
          unfold Instr.mapUpdate
          simp [run_und hT hu, run_getObj (P := P) hc (by simp), check_ok hT hf hK, a3, b1]
        · obtain ⟨m', hk, hn, hg, hget⟩ := setBlkK_some h3
          obtain ⟨x', a1, a2, a3⟩ := find_ok hT hf hK hE w h1
          obtain ⟨hke, _, hbo⟩ := hE.get a1 a2
          have hkk : x'.key = K := plainEq_det h2 hke hK
          have a2' : xs[idxK T kt key es]? = some x' := by rw [← Array.getElem?_toList]; exact a2
          obtain ⟨b1, b2, b3⟩ := hR.setObj (P := P) (m' := m') (b1 := .map (es.set (idxK T kt key es) ⟨key, val, en.born⟩) c) (ob' := .map (xs.modify (idxK T kt key es) fun e => { e with key := K, val := V }) c) hb hp rfl rfl rfl rfl hn hg hget hc (by simp)
            (fun heap hh => ⟨_, hh, by rw [modify_set a2]; exact hE.set (a := ⟨key, val, en.born⟩) (x := { x' with key := K, val := V }) hK hV hbo _⟩)
          refine ⟨m', hk, _, ?_, b2, hn, b3⟩
          unfold Instr.mapUpdate
          simp [run_und hT hu, run_getObj (P := P) hc (by simp), check_ok hT hf hK, a3, a2', hkk, keyStays hf hK, b1]
      · cases h
  · cases h
end
end Go.Proofs.YtplgnjpeikamhaaGreatDoor.Xec
