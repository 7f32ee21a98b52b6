/- The executor's steps are the machine's own, part 6. -/
import Derived.Test.YtplgnjpeikamhaaGreatDoorXf
import Derived.Orders
set_option linter.unusedSectionVars false
set_option linter.unnecessarySimpa false
set_option linter.unusedVariables false
set_option linter.unusedSimpArgs false
namespace Go.Proofs.YtplgnjpeikamhaaGreatDoor.Xec
variable {α β : Type}

theorem optEq_eq : ∀ {a b : Option Nat}, optEq a b = true → a = b
  | none, none, _ => rfl
  | none, some _, h => by cases h
  | some _, none, h => by cases h
  | some a, some b, h => by rw [beq_nat.1 h]

theorem beqEnts_eq : ∀ {a b : List AEnt}, beqEnts a b = true → a = b
  | [], [], _ => rfl
  | [], _ :: _, h => by cases h
  | _ :: _, [], h => by cases h
  | a :: l, b :: r, h => by
    obtain ⟨a1, a2, a3⟩ := a
    obtain ⟨b1, b2, b3⟩ := b
    simp only [beqEnts, Bool.and_eq_true] at h
    obtain ⟨⟨⟨h1, h2⟩, h3⟩, h4⟩ := h
    rw [beqEnts_eq h4, beqV_eq _ _ _ h1, beqV_eq _ _ _ h2, beq_nat.1 h3]

theorem beqBlk_real {T : Tab} {e : Env} {h : Array Obj} {p : Plc} {b b' : ABlk} (hb : beqBlk b b' = true) : (Real T e h p b → Real T e h p b') ∧ b'.grp = b.grp ∧ b'.gb = b.gb := by
  unfold beqBlk at hb
  split at hb
  · rename_i el g gb fz st ex n cs el' g' gb' fz' st' ex' n' cs'
    simp only [Bool.and_eq_true] at hb
    obtain ⟨⟨⟨⟨⟨⟨⟨h1, h2⟩, h3⟩, h4⟩, h5⟩, h6⟩, h7⟩, h8⟩ := hb
    obtain rfl := beq_nat.1 h1
    obtain rfl := optEq_eq h2
    obtain rfl := beq_nat.1 h3
    obtain rfl := beq_nat.1 h4
    obtain rfl := beq_nat.1 h7
    have h5 : st' = st := by cases st <;> cases st' <;> simp at h5 <;> rfl
    have h6 : ex' = ex := by cases ex <;> cases ex' <;> simp at h6 <;> rfl
    subst h5; subst h6
    refine ⟨fun hr => ?_, rfl, rfl⟩
    split at h8
    · rename_i l l' hl hl'
      have hll := all2_eq (beqV_eq 20) h8
      subst hll
      obtain ⟨_, s1⟩ := readCells_spec _ _ _ _ hl
      obtain ⟨_, s2⟩ := readCells_spec _ _ _ _ hl'
      obtain ⟨c, fr, c1, c2, c3⟩ := hr
      refine ⟨c, fr, c1, fun i hi => ?_, c3⟩
      obtain ⟨a, v, g1, g2, g3⟩ := c2 i hi
      have e1 := s1 i hi
      have e2 := s2 i hi
      rw [Nat.zero_add] at e1 e2
      exact ⟨a, v, by rw [e2, ← e1]; exact g1, g2, g3⟩
    · cases h8
  · simp only [Bool.and_eq_true] at hb
    rw [beq_nat.1 hb.1, beqEnts_eq hb.2]
    exact ⟨fun h => h, rfl, rfl⟩
  · simp only [Bool.and_eq_true] at hb
    rw [natsEq_iff.1 hb.1, beq_nat.1 hb.2]
    exact ⟨fun h => h, rfl, rfl⟩
  · simp only [Bool.and_eq_true] at hb
    rw [optEq_eq hb.1.1.1, beq_nat.1 hb.1.1.2, natsEq_iff.1 hb.1.2, beq_nat.1 hb.2]
    exact ⟨fun h => h, rfl, rfl⟩
  · simp only [Bool.and_eq_true] at hb
    rw [beq_nat.1 hb.1.1.1, beq_nat.1 hb.1.1.2, beq_nat.1 hb.1.2, beq_nat.1 hb.2]
    exact ⟨fun h => h, rfl, rfl⟩
  · exact ⟨fun h => h, rfl, rfl⟩
  · exact ⟨fun h => h, rfl, rfl⟩
  · cases hb

/-- **A number gets its place.** -/
theorem Rel.realize {T : Tab} {F : Nat → Prop} {e : Env} {m : AMem} {w : World} (h : Rel T F e m w) {id : Nat} {b : ABlk} (hb : m.blks.get id = some b) (hu : e.pl id = none) (ob : Obj)
    (hr : Real T (e.add id ⟨w.heap.size, 0, 0⟩) (w.heap.push ob) ⟨w.heap.size, 0, 0⟩ b) :
    Rel T F (e.add id ⟨w.heap.size, 0, 0⟩) m { w with heap := w.heap.push ob } ∧ e.le (e.add id ⟨w.heap.size, 0, 0⟩) ∧ Keep F w { w with heap := w.heap.push ob } := by
  have hle : e.le (e.add id ⟨w.heap.size, 0, 0⟩) := ⟨rfl, fun i p hp => by
    have : i ≠ id := fun hh => by rw [hh, hu] at hp; cases hp
    simp [Env.add, this, hp]⟩
  have old : ∀ i p, i ≠ id → (e.add id ⟨w.heap.size, 0, 0⟩).pl i = some p → e.pl i = some p := fun i p hi hp => by simpa [Env.add, hi] using hp
  have new : ∀ p, (e.add id ⟨w.heap.size, 0, 0⟩).pl id = some p → p = ⟨w.heap.size, 0, 0⟩ := fun p hp => by simpa [Env.add, eq_comm] using hp
  have lt : ∀ i b p, m.blks.get i = some b → e.pl i = some p → p.blk < w.heap.size := fun i b p hb hp => (h.real i b p hb hp).lt
  refine ⟨⟨?_, ?_, h.grp, ?_, ?_, ?_, ?_⟩, hle, ⟨fun b hb => get?_push_lt (h.size b hb), by simp, rfl, rfl, rfl⟩⟩
  · intro i b' p hi hp
    by_cases e1 : i = id
    · subst e1
      rw [hb] at hi
      cases hi
      obtain rfl := new p hp
      exact hr
    · have hp' := old i p e1 hp
      exact (h.real i b' p hi hp').mono hle rfl (get?_push_lt (lt i b' p hi hp'))
  · intro i j p q b1 b2 hij hi hj hp hq hpq
    by_cases e1 : i = id
    · subst e1
      have hq' := old j q (Ne.symm hij) hq
      have := lt j b2 q hj hq'
      obtain rfl := new p hp
      dsimp only at hpq
      omega
    · have hp' := old i p e1 hp
      by_cases e2 : j = id
      · subst e2
        have := lt i b1 p hi hp'
        obtain rfl := new q hq
        dsimp only at hpq
        omega
      · exact h.sep i j p q b1 b2 hij hi hj hp' (old j q e2 hq) hpq
  · intro i hi
    have hne : i ≠ id := fun hh => by
      have := (h.fresh i hi).2
      rw [hh, hb] at this; cases this
    exact ⟨by simp [Env.add, hne, (h.fresh i hi).1], (h.fresh i hi).2⟩
  · intro i b' p hi hp hF
    by_cases e1 : i = id
    · subst e1
      obtain rfl := new p hp
      have := h.size _ hF
      dsimp only at this
      omega
    · exact h.frame i b' p hi (old i p e1 hp) hF
  · intro b hF
    have := h.size b hF
    simp
    omega
  · intro g hg
    obtain ⟨c, hc⟩ := h.glob g hg
    exact ⟨c, hle.2 _ _ hc⟩
end Go.Proofs.YtplgnjpeikamhaaGreatDoor.Xec

namespace Go.Proofs.YtplgnjpeikamhaaGreatDoor.Xec
variable {α β : Type}

/-- an order in which a region's operations may come -/
inductive Lin (ops : Array Oper) : Array Bool → List Nat → Prop where
  | done {listed : Array Bool} : Region.ready .any ops listed = [] → Lin ops listed []
  | cons {listed : Array Bool} {i : Nat} {l : List Nat} : i ∈ Region.ready .any ops listed → Lin ops (listed.setIfInBounds i true) l → Lin ops listed (i :: l)

theorem lin_go (ops : Array Oper) : ∀ (fuel t : Nat) (listed : Array Bool), listed.size = ops.size → listed.toList.count false ≤ fuel → Lin ops listed (Region.linearise.go .any ops fuel t listed []) := by
  intro fuel
  induction fuel with
  | zero =>
    intro t listed hs hc
    simp only [Region.linearise.go, List.reverse_nil]
    refine .done (List.eq_nil_iff_forall_not_mem.2 fun j hj => ?_)
    obtain ⟨h1, o, h2, _⟩ := mem_ready.1 hj
    have hlt : j < listed.size := by rw [hs]; exact (Array.getElem?_eq_some_iff.1 h2).1
    have : listed[j] = false := by simpa [Array.getD_eq_getD_getElem?, Array.getElem?_eq_getElem hlt] using h1
    have hm : false ∈ listed.toList := by rw [← this]; simp
    have := List.count_pos_iff.2 hm
    omega
  | succ fuel ih =>
    intro t listed hs hc
    simp only [Region.linearise.go]
    split
    · rename_i i hi
      have hm : i ∈ Region.ready .any ops listed := List.mem_of_getElem? hi
      rw [linearise_go_acc]
      refine .cons hm (ih _ _ (by simp [hs]) ?_)
      obtain ⟨h1, o, h2, _⟩ := mem_ready.1 hm
      have hlt : i < listed.size := by rw [hs]; exact (Array.getElem?_eq_some_iff.1 h2).1
      have hf : listed[i] = false := by simpa [Array.getD_eq_getD_getElem?, Array.getElem?_eq_getElem hlt] using h1
      have hm2 : false ∈ listed.toList := by rw [← hf]; simp
      have hpos := List.count_pos_iff.2 hm2
      rw [Array.toList_setIfInBounds, List.count_set (by simpa using hlt)]
      have hcc : listed.toList.count false = Array.count false listed := by simp
      simp [hf]
      omega
    · rename_i hn
      refine .done ?_
      cases hr : Region.ready .any ops listed with
      | nil => rfl
      | cons a l =>
        exfalso
        have : t % (a :: l).length < (a :: l).length := Nat.mod_lt _ (by simp)
        have h3 : (Region.ready .any ops listed)[t % (Region.ready .any ops listed).length]? = none := hn
        rw [hr, List.getElem?_eq_getElem this] at h3
        cases h3

theorem schedule_lin (ops : Array Oper) (t : Nat) : Lin ops (Array.replicate ops.size false) (Region.schedule true ops t) := by
  unfold Region.schedule Region.linearise
  simp only [Bool.true_or, if_true]
  exact lin_go ops _ _ _ (by simp) (by simp)
end Go.Proofs.YtplgnjpeikamhaaGreatDoor.Xec

namespace Go.Proofs.YtplgnjpeikamhaaGreatDoor.Xec
variable {α β : Type}

theorem testBit_lor (a b i : Nat) : Nat.testBit (Nat.lor a b) i = (Nat.testBit a i || Nat.testBit b i) := Nat.testBit_or a b i
theorem testBit_pow (n i : Nat) : Nat.testBit (2 ^ n) i = decide (n = i) := by rw [Nat.testBit_two_pow]
theorem land_eq {dm d : Nat} (h : Nat.beq (Nat.land dm d) dm = true) {q : Nat} (hq : Nat.testBit dm q = true) : Nat.testBit d q = true := by
  have h := beq_nat.1 h
  have h2 : Nat.testBit (dm &&& d) q = true := by
    show Nat.testBit (Nat.land dm d) q = true
    rw [h]; exact hq
  rw [Nat.testBit_and] at h2
  simp only [Bool.and_eq_true] at h2
  exact h2.2

theorem depFold (l : List Edge) : ∀ (m q : Nat), Nat.testBit (l.foldl (fun m e => bif Region.binds .any e then Nat.lor m (2 ^ e.on) else m) m) q = true ↔ Nat.testBit m q = true ∨ ∃ e ∈ l, Region.binds .any e = true ∧ e.on = q := by
  induction l with
  | nil => intro m q; simp
  | cons e l ih =>
    intro m q
    simp only [List.foldl_cons]
    rw [ih]
    cases hb : Region.binds .any e with
    | false =>
      simp only [cond_false, List.mem_cons]
      constructor
      · rintro (h | ⟨x, h1, h2⟩)
        · exact .inl h
        · exact .inr ⟨x, .inr h1, h2⟩
      · rintro (h | ⟨x, rfl | h1, h2, h3⟩)
        · exact .inl h
        · rw [hb] at h2; cases h2
        · exact .inr ⟨x, h1, h2, h3⟩
    | true =>
      simp only [cond_true, testBit_lor, testBit_pow, Bool.or_eq_true, decide_eq_true_eq, List.mem_cons]
      constructor
      · rintro ((h | h) | ⟨x, h1, h2⟩)
        · exact .inl h
        · exact .inr ⟨e, .inl rfl, hb, h⟩
        · exact .inr ⟨x, .inr h1, h2⟩
      · rintro (h | ⟨x, rfl | h1, h2, h3⟩)
        · exact .inl (.inl h)
        · exact .inl (.inr h3)
        · exact .inr ⟨x, h1, h2, h3⟩

theorem depMask_bit {o : Oper} {q : Nat} : Nat.testBit (depMask o) q = true ↔ ∃ e ∈ o.after, Region.binds .any e = true ∧ e.on = q := by
  unfold depMask
  rw [depFold]
  simp

/-- closed downward -/
def Down (ops : Array Oper) (S : Nat → Prop) : Prop := ∀ j o, S j → ops[j]? = some o → ∀ q, Nat.testBit (depMask o) q = true → S q

abbrev Row := Nat × Oper × Nat × Nat

def RowOk (ops : Array Oper) (x : Row) : Prop := ops[x.1]? = some x.2.1 ∧ x.2.2.1 = depMask x.2.1 ∧ ∀ S, Down ops S → (∀ q, Nat.testBit (depMask x.2.1) q = true → S q) → ∀ q, Nat.testBit x.2.2.2 q = true → S q

theorem befFold (dm : Nat) (acc : List Row) : ∀ (m q : Nat), Nat.testBit (acc.foldl (fun m x => bif Nat.testBit dm x.1 then Nat.lor m x.2.2.2 else m) m) q = true → Nat.testBit m q = true ∨ ∃ x ∈ acc, Nat.testBit dm x.1 = true ∧ Nat.testBit x.2.2.2 q = true := by
  induction acc with
  | nil => intro m q h; exact .inl h
  | cons x acc ih =>
    intro m q h
    simp only [List.foldl_cons] at h
    rcases ih _ _ h with h | ⟨y, h1, h2⟩
    · cases hb : Nat.testBit dm x.1 with
      | false => rw [hb] at h; exact .inl h
      | true =>
        rw [hb] at h
        simp only [cond_true, testBit_lor, Bool.or_eq_true] at h
        rcases h with h | h
        · exact .inl h
        · exact .inr ⟨x, by simp, hb, h⟩
    · exact .inr ⟨y, by simp [h1], h2⟩

theorem rowsOf_ok (ops : Array Oper) : ∀ (l : List Oper) (i : Nat) (acc : List Row), ops.toList.drop i = l → (∀ x ∈ acc, RowOk ops x) → (∀ j, j < i → ∃ x ∈ acc, x.1 = j) →
    (∀ x ∈ rowsOf l i acc, RowOk ops x) ∧ ∀ j, j < i + l.length → ∃ x ∈ rowsOf l i acc, x.1 = j := by
  intro l
  induction l with
  | nil => intro i acc _ h h2; exact ⟨fun x hx => h x (by simpa [rowsOf] using hx), fun j hj => by obtain ⟨x, h3, h4⟩ := h2 j (by simpa using hj); exact ⟨x, by simpa [rowsOf] using h3, h4⟩⟩
  | cons o l ih =>
    intro i acc hl h h2
    have ho : ops[i]? = some o := by
      have := congrArg (fun l => l[0]?) hl
      simpa using this
    have hl' : ops.toList.drop (i + 1) = l := by
      have := congrArg List.tail hl
      simpa using this
    unfold rowsOf
    obtain ⟨g1, g2⟩ := ih (i + 1) ((i, o, depMask o, acc.foldl (fun m x => bif Nat.testBit (depMask o) x.1 then Nat.lor m x.2.2.2 else m) (depMask o)) :: acc) hl' (fun x hx => by
      rcases List.mem_cons.1 hx with rfl | hx
      · refine ⟨ho, rfl, fun S hS hq q hb => ?_⟩
        rcases befFold _ _ _ _ hb with hb | ⟨x, h3, h4, h5⟩
        · exact hq q hb
        · obtain ⟨r1, r2, r3⟩ := h x h3
          exact r3 S hS (fun q' hq' => hS x.1 x.2.1 (hq _ h4) r1 q' hq') q h5
      · exact h x hx) (fun j hj => by
      by_cases e1 : j = i
      · exact ⟨_, List.mem_cons_self, e1.symm⟩
      · obtain ⟨x, h3, h4⟩ := h2 j (by omega)
        exact ⟨x, List.mem_cons_of_mem _ h3, h4⟩)
    exact ⟨g1, fun j hj => g2 j (by simp only [List.length_cons] at hj; omega)⟩
end Go.Proofs.YtplgnjpeikamhaaGreatDoor.Xec

namespace Go.Proofs.YtplgnjpeikamhaaGreatDoor.Xec
variable {α β : Type}

inductive PlanGood (T : Tab) (ops : Array Oper) (rows : List Row) : Nat → List PSt → Prop where
  | nil {D : Nat} : (∀ x ∈ rows, Nat.testBit D x.1 = true) → PlanGood T ops rows D []
  | cons {D i : Nat} {o : Oper} {dm b : Nat} {kd : Kind} {pl : List PSt} : (i, o, dm, b) ∈ rows → Nat.testBit D i = false → (∀ q, Nat.testBit dm q = true → Nat.testBit D q = true) →
      (kd ≠ .act → kindOf T o.op = kd ∧ lonely ops.toList rows i o = true) →
      (kd = .act → quiet ops.toList rows D i o b = true ∧ ∀ x ∈ rows, Nat.testBit D x.1 = false → (∀ q, Nat.testBit x.2.2.1 q = true → Nat.testBit D q = true) → x.1 = i) →
      PlanGood T ops rows (Nat.lor D (2 ^ i)) pl → PlanGood T ops rows D (⟨i, o, kd, b⟩ :: pl)

theorem land_of {dm d : Nat} (h : ∀ q, Nat.testBit dm q = true → Nat.testBit d q = true) : Nat.beq (Nat.land dm d) dm = true := by
  rw [beq_nat]
  apply Nat.eq_of_testBit_eq
  intro q
  show Nat.testBit (dm &&& d) q = _
  rw [Nat.testBit_and]
  cases hq : Nat.testBit dm q with
  | false => rfl
  | true => rw [h q hq]; rfl

theorem planGo_good {T : Tab} {ops : Array Oper} {rows : List Row} : ∀ (f D : Nat) (pl : List PSt), planGo T ops.toList rows f D = some pl → PlanGood T ops rows D pl := by
  intro f
  induction f with
  | zero =>
    intro D pl h
    unfold planGo at h
    cases hc : rows.all (fun x => Nat.testBit D x.1) with
    | false => rw [hc] at h; cases h
    | true =>
      rw [hc] at h
      cases h
      exact .nil (fun x hx => by simpa using List.all_eq_true.1 hc x hx)
  | succ f ih =>
    intro D pl h
    unfold planGo at h
    dsimp only at h
    split at h
    · rename_i i o dm b hfind
      have hmem := List.mem_of_find?_eq_some hfind
      have hp := List.find?_some hfind
      rw [List.mem_filter] at hmem
      simp only [Bool.and_eq_true, Bool.not_eq_true', bne_iff_ne, ne_eq] at hmem hp
      split at h
      · rename_i l hl
        cases h
        exact .cons hmem.1 hmem.2.1 (fun q hq => land_eq hmem.2.2 hq) (fun _ => ⟨rfl, hp.2⟩) (fun hk => (hp.1 hk).elim) (ih _ _ hl)
      · cases h
    · split at h
      · rename_i i o dm b hready
        have hmem : (i, o, dm, b) ∈ rows.filter fun x => !Nat.testBit D x.1 && Nat.beq (Nat.land x.2.2.1 D) x.2.2.1 := by
          have : (rows.filter fun x => !Nat.testBit D x.1 && Nat.beq (Nat.land x.2.2.1 D) x.2.2.1) = [(i, o, dm, b)] := hready
          rw [this]; simp
        rw [List.mem_filter] at hmem
        simp only [Bool.and_eq_true, Bool.not_eq_true'] at hmem
        cases hq : quiet ops.toList rows D i o b with
        | false => rw [hq] at h; cases h
        | true =>
          rw [hq] at h
          simp only [cond_true] at h
          split at h
          · rename_i l hl
            cases h
            refine .cons hmem.1 hmem.2.1 (fun q hq => land_eq hmem.2.2 hq) (fun hk => (hk rfl).elim) (fun _ => ⟨hq, fun x hx h1 h2 => ?_⟩) (ih _ _ hl)
            have hx2 : x ∈ rows.filter fun x => !Nat.testBit D x.1 && Nat.beq (Nat.land x.2.2.1 D) x.2.2.1 := by
              rw [List.mem_filter]
              refine ⟨hx, ?_⟩
              simp only [h1, Bool.not_false, Bool.true_and]
              exact land_of h2
            have : (rows.filter fun x => !Nat.testBit D x.1 && Nat.beq (Nat.land x.2.2.1 D) x.2.2.1) = [(i, o, dm, b)] := hready
            rw [this] at hx2
            simp only [List.mem_singleton] at hx2
            rw [hx2]
          · cases h
      · cases h
end Go.Proofs.YtplgnjpeikamhaaGreatDoor.Xec

namespace Go.Proofs.YtplgnjpeikamhaaGreatDoor.Xec
variable {α β : Type}

theorem sees_eval {ops : List Oper} {o : Oper} {g g' : Tr AVal} (h : ∀ d, sees ops d o = true → g.get d = g'.get d) (ng : Nat) : ∀ x ∈ o.op.operands, evalO ng g x = evalO ng g' x := by
  intro x hx
  cases x with
  | tmp t =>
    have : sees ops t o = true := by
      unfold sees
      rw [Bool.or_eq_true]
      left
      rw [List.any_eq_true]
      exact ⟨.tmp t, by simpa using hx, by simp⟩
    unfold evalO
    dsimp only
    rw [h t this]
  | const v => rfl
  | global n => rfl
  | func f => rfl

theorem sees_wanted {ops : List Oper} {o : Oper} {g g' : Tr AVal} (h : ∀ d, sees ops d o = true → g.get d = g'.get d) : wantedB ops g o = wantedB ops g' o := by
  unfold wantedB
  cases hg : o.guard with
  | none => rfl
  | some jw =>
    obtain ⟨j, want⟩ := jw
    dsimp only
    cases hj : ops[j]? with
    | none => rfl
    | some oj =>
      dsimp only
      cases hd : oj.dst with
      | none => rfl
      | some d =>
        have : sees ops d o = true := by
          unfold sees
          rw [Bool.or_eq_true]
          right
          rw [hg]
          dsimp only
          rw [hj]
          dsimp only
          rw [hd]
          simp
        dsimp only
        rw [h d this]
end Go.Proofs.YtplgnjpeikamhaaGreatDoor.Xec

namespace Go.Proofs.YtplgnjpeikamhaaGreatDoor.Xec
variable {α β : Type}

/-! ### Operations taken and not yet carried out -/
inductive What where
  | unw
  | pur
  | alc (id : Nat) (b : ABlk)

structure Pd where
  i : Nat
  o : Oper
  tm : Tr AVal
  v : AVal
  wh : What

def putF (o : Oper) (v : AVal) (g : Nat → Option AVal) : Nat → Option AVal := fun t => if o.dst = some t then some v else g t

def over : List Pd → (Nat → Option AVal) → Nat → Option AVal
  | [], g => g
  | p :: A, g => over A (putF p.o p.v g)

/-- each sees what stands when those ahead of it have been carried out, and waits for these alone -/
def Pds (ops : List Oper) : List Pd → (Nat → Option AVal) → (Nat → Prop) → Prop
  | [], _, _ => True
  | p :: A, g, S => (∀ t, sees ops t p.o = true → p.tm.get t = g t) ∧ (∀ q, Nat.testBit (depMask p.o) q = true → S q) ∧ Pds ops A (putF p.o p.v g) (fun j => S j ∨ p.i = j)

theorem over_append : ∀ (A B : List Pd) (g : Nat → Option AVal), over (A ++ B) g = over B (over A g)
  | [], _, _ => rfl
  | _ :: A, B, _ => over_append A B _

theorem over_same : ∀ (A : List Pd) (g : Nat → Option AVal) (t : Nat), (∀ a ∈ A, a.o.dst ≠ some t) → over A g t = g t
  | [], _, _, _ => rfl
  | p :: A, g, t, h => by
    simp only [over]
    rw [over_same A _ t (fun a ha => h a (by simp [ha]))]
    simp [putF, h p (by simp)]

theorem putF_comm {o o' : Oper} {v v' : AVal} {g : Nat → Option AVal} (h : ∀ d, o.dst = some d → o'.dst ≠ some d) : putF o v (putF o' v' g) = putF o' v' (putF o v g) := by
  funext t
  unfold putF
  by_cases h1 : o.dst = some t
  · have h2 := h t h1
    simp [h1, h2]
  · simp [h1]

theorem over_put {o : Oper} {v : AVal} : ∀ (A : List Pd) (g : Nat → Option AVal), (∀ a ∈ A, ∀ d, o.dst = some d → a.o.dst ≠ some d) → over A (putF o v g) = putF o v (over A g)
  | [], _, _ => rfl
  | p :: A, g, h => by
    simp only [over]
    rw [← putF_comm (fun d hd => h p (by simp) d hd), over_put A _ (fun a ha => h a (by simp [ha]))]

theorem Pds.mono {ops : List Oper} : ∀ {A : List Pd} {g : Nat → Option AVal} {S S' : Nat → Prop}, (∀ j, S j → S' j) → Pds ops A g S → Pds ops A g S'
  | [], _, _, _, _, _ => trivial
  | _ :: _, _, _, _, hs, h => ⟨h.1, fun q hq => hs q (h.2.1 q hq), Pds.mono (fun j hj => hj.imp (hs j) id) h.2.2⟩

theorem Pds.append {ops : List Oper} : ∀ {A B : List Pd} {g : Nat → Option AVal} {S : Nat → Prop}, Pds ops (A ++ B) g S ↔ Pds ops A g S ∧ Pds ops B (over A g) (fun j => S j ∨ ∃ a ∈ A, a.i = j)
  | [], B, g, S => by simp [Pds, over]
  | p :: A, B, g, S => by
    simp only [List.cons_append, Pds, over]
    rw [Pds.append (A := A)]
    have hS : (fun j => (S j ∨ p.i = j) ∨ ∃ a ∈ A, a.i = j) = (fun j => S j ∨ ∃ a ∈ p :: A, a.i = j) := by
      funext j
      simp only [List.mem_cons, exists_eq_or_imp, or_assoc]
    rw [hS]
    constructor
    · rintro ⟨h1, h2, h3, h4⟩; exact ⟨⟨h1, h2, h3⟩, h4⟩
    · rintro ⟨⟨h1, h2, h3⟩, h4⟩; exact ⟨h1, h2, h3, h4⟩

theorem Pds.put {ops : List Oper} {o : Oper} {v : AVal} : ∀ {A : List Pd} {g : Nat → Option AVal} {S : Nat → Prop}, (∀ a ∈ A, ∀ d, o.dst = some d → sees ops d a.o = false ∧ a.o.dst ≠ some d) → Pds ops A g S → Pds ops A (putF o v g) S
  | [], _, _, _, _ => trivial
  | p :: A, g, S, h, hp => by
    refine ⟨fun t ht => ?_, hp.2.1, ?_⟩
    · rw [hp.1 t ht]
      unfold putF
      by_cases h1 : o.dst = some t
      · have := (h p (by simp) t h1).1
        rw [ht] at this; cases this
      · simp [h1]
    · rw [← putF_comm (fun d hd => (h p (by simp) d hd).2)]
      exact Pds.put (fun a ha => h a (by simp [ha])) hp.2.2

theorem lonely_use {ops : List Oper} {rows : List Row} {i : Nat} {o : Oper} (h : lonely ops rows i o = true) {d : Nat} (hd : o.dst = some d) {j : Nat} {oj : Oper} {dm bj : Nat} (hm : (j, oj, dm, bj) ∈ rows) (hij : i ≠ j) (hb : Nat.testBit bj i = false) :
    sees ops d oj = false ∧ oj.dst ≠ some d := by
  unfold lonely at h
  rw [hd] at h
  dsimp only at h
  have h1 := List.all_eq_true.1 h _ hm
  dsimp only at h1
  have hn : Nat.beq i j = false := beq_nat_false.2 hij
  rw [hn, hb] at h1
  simp only [Bool.false_or, Bool.or_false, Bool.and_eq_true, Bool.not_eq_true'] at h1
  refine ⟨h1.1, fun he => ?_⟩
  have h2 := h1.2
  rw [he] at h2
  simp at h2

theorem quiet_use {ops : List Oper} {rows : List Row} {D i b : Nat} {o : Oper} (h : quiet ops rows D i o b = true) {d : Nat} (hd : o.dst = some d) {j : Nat} {oj : Oper} {dm bj : Nat} (hm : (j, oj, dm, bj) ∈ rows) (hj : Nat.testBit D j = true) (hb : Nat.testBit b j = false) :
    sees ops d oj = false ∧ oj.dst ≠ some d := by
  unfold quiet at h
  rw [hd] at h
  dsimp only at h
  have h1 := List.all_eq_true.1 h _ hm
  dsimp only at h1
  rw [hj, hb] at h1
  simp only [Bool.not_true, Bool.false_or, Bool.and_eq_true, Bool.not_eq_true'] at h1
  refine ⟨h1.1, fun he => ?_⟩
  have h2 := h1.2
  rw [he] at h2
  simp at h2

open Classical in
/-- what an operation's own operands are -/
noncomputable def evR (T : Tab) (tm : Tr AVal) (o : Oper) : Operand → Option AVal := fun x => if x ∈ o.op.operands then evalO T.ng tm x else none

def Fit (P : Program) (T : Tab) (ops : List Oper) (nt : Nat) (n0 : Nat) (e : Env) (m : AMem) (ts : List Taken) (p : Pd) : Prop :=
  (∀ d, p.o.dst = some d → d < nt) ∧ match p.wh with
  | .unw => wantedB ops p.tm p.o = some false ∧ p.v = aundef
  | .pur => wantedB ops p.tm p.o = some true ∧ kindOf T p.o.op = .pure ∧ aplain T (evalO T.ng p.tm) p.o.op m valK = some p.v ∧ (⟨p.i, p.o, p.tm, p.v, none⟩ : Taken) ∈ ts
  | .alc id b => wantedB ops p.tm p.o = some true ∧ AllocIs P T (evR T p.tm p.o) p.o id p.v b ∧ (n0 ≤ id ∧ id < m.next ∧ e.pl id = none) ∧ (∃ b', m.blks.get id = some b' ∧ ∀ e h q, Real T e h q b → Real T e h q b') ∧ (⟨p.i, p.o, p.tm, p.v, some (id, b)⟩ : Taken) ∈ ts

theorem Fit.take {P : Program} {T : Tab} {ops : List Oper} {nt n0 : Nat} {e : Env} {m m' : AMem} {ts ts' : List Taken} {p : Pd} (hm : ∀ i b, m.blks.get i = some b → m'.blks.get i = some b) (hn : m.next ≤ m'.next) (hts : ∀ t ∈ ts, t ∈ ts') (h : Fit P T ops nt n0 e m ts p) : Fit P T ops nt n0 e m' ts' p := by
  obtain ⟨h0, h⟩ := h
  refine ⟨h0, ?_⟩
  split at h
  · exact h
  · exact ⟨h.1, h.2.1, pure_mono h.2.1 hm h.2.2.1, hts _ h.2.2.2⟩
  · obtain ⟨h1, h2, ⟨h3, h4, h5⟩, ⟨b', h6, h7⟩, h8⟩ := h
    exact ⟨h1, h2, ⟨h3, by omega, h5⟩, ⟨b', hm _ _ h6, h7⟩, hts _ h8⟩

theorem Fit.add {P : Program} {T : Tab} {ops : List Oper} {nt n0 : Nat} {e : Env} {m : AMem} {ts : List Taken} {p : Pd} {id0 : Nat} {q : Plc} (hne : ∀ id b, p.wh = .alc id b → id ≠ id0) (h : Fit P T ops nt n0 e m ts p) : Fit P T ops nt n0 (e.add id0 q) m ts p := by
  obtain ⟨h0, h⟩ := h
  refine ⟨h0, ?_⟩
  split at h
  · exact h
  · exact h
  · rename_i id b hw
    obtain ⟨h1, h2, ⟨h3, h4, h5⟩, h6, h8⟩ := h
    exact ⟨h1, h2, ⟨h3, h4, by simp [Env.add, hne id b hw, h5]⟩, h6, h8⟩

theorem Fit.act {P : Program} {T : Tab} {ops : List Oper} {nt n0 : Nat} {e e' : Env} {m m' : AMem} {ts ts' : List Taken} {p : Pd} (hx : Ext m e e') (hn : m.next ≤ m'.next) (hts : ∀ t ∈ ts, t.i = p.i → t ∈ ts' ∧ stillOk T t m' = true) (h : Fit P T ops nt n0 e m ts p) : Fit P T ops nt n0 e' m' ts' p := by
  obtain ⟨h0, h⟩ := h
  refine ⟨h0, ?_⟩
  split at h
  · exact h
  · obtain ⟨h1, h2, h3, h4⟩ := h
    obtain ⟨g1, g2⟩ := hts _ h4 rfl
    refine ⟨h1, h2, ?_, g1⟩
    unfold stillOk at g2
    dsimp only at g2
    split at g2
    · rename_i v hv
      rw [hv, beqV_eq _ _ _ g2]
    · cases g2
  · rename_i id b hw
    obtain ⟨h1, h2, ⟨h3, h4, h5⟩, ⟨b', h6, h7⟩, h8⟩ := h
    obtain ⟨g1, g2⟩ := hts _ h8 rfl
    refine ⟨h1, h2, ⟨h3, by omega, by rw [hx.pl id h4]; exact h5⟩, ?_, g1⟩
    unfold stillOk at g2
    dsimp only at g2
    split at g2
    · rename_i b2 hb2
      rw [AMem.get_blks] at hb2
      exact ⟨b2, hb2, fun e h q hr => (beqBlk_real (T := T) g2).1 hr⟩
    · cases g2

theorem keepOk_some {T : Tab} {b : Nat} {m : AMem} : ∀ (ts : List Taken) (k : List Taken → Option β) (r : β), keepOk T b m ts k = some r → ∃ ts', k ts' = some r ∧ ∀ t ∈ ts, Nat.testBit b t.i = false → t ∈ ts' ∧ stillOk T t m = true
  | [], k, r, h => ⟨[], h, fun _ ht => by cases ht⟩
  | t :: ts, k, r, h => by
    unfold keepOk at h
    cases hb : Nat.testBit b t.i with
    | true =>
      rw [hb] at h
      obtain ⟨ts', h1, h2⟩ := keepOk_some ts k r h
      refine ⟨ts', h1, fun u hu hub => ?_⟩
      rcases List.mem_cons.1 hu with rfl | hu
      · rw [hb] at hub; cases hub
      · exact h2 u hu hub
    | false =>
      rw [hb] at h
      simp only [cond_false] at h
      cases hs : stillOk T t m with
      | false => rw [hs] at h; cases h
      | true =>
        rw [hs] at h
        obtain ⟨ts', h1, h2⟩ := keepOk_some ts _ r h
        refine ⟨_, h1, fun u hu hub => ?_⟩
        rcases List.mem_cons.1 hu with rfl | hu
        · exact ⟨List.mem_cons_self, hs⟩
        · exact ⟨List.mem_cons_of_mem _ (h2 u hu hub).1, (h2 u hu hub).2⟩

theorem putK_some {nt : Nat} {tm : Tr AVal} {o : Oper} {v : AVal} {k : Tr AVal → Option β} {r : β} (h : putK nt tm o.dst v k = some r) : ∃ tm', k tm' = some r ∧ (∀ t, tm'.get t = putF o v tm.get t) ∧ ∀ d, o.dst = some d → d < nt := by
  unfold putK at h
  cases hd : o.dst with
  | none => rw [hd] at h; exact ⟨tm, h, fun t => by simp [putF, hd], fun d hh => by cases hh⟩
  | some d =>
    rw [hd] at h
    dsimp only at h
    cases hn : Nat.blt d nt with
    | false => rw [hn] at h; cases h
    | true =>
      rw [hn] at h
      obtain ⟨tm', h1, h2⟩ := Tr.setK_some _ _ _ _ _ _ h
      refine ⟨tm', h1, fun t => ?_, fun d' hh => by cases hh; exact blt_nat.1 hn⟩
      rw [h2]
      unfold putF
      rw [hd]
      by_cases ht : t = d
      · simp [ht]
      · have : (some d : Option Nat) ≠ some t := fun hh => ht (by cases hh; rfl)
        simp [ht, this]

theorem Rel.take {T : Tab} {F : Nat → Prop} {e : Env} {m m' : AMem} {w : World} (h : Rel T F e m w) {b : ABlk} (hn : m'.next = m.next + 1) (hg : m'.grps = m.grps) (hb : ∀ i, m'.blks.get i = if i = m.next then some b else m.blks.get i) (hbg : b.grp = none) : Rel T F e m' w := by
  have hne : ∀ i p, e.pl i = some p → i ≠ m.next := fun i p hp hh => by rw [hh, (h.fresh m.next (Nat.le_refl _)).1] at hp; cases hp
  refine ⟨fun i b' p hi hp => ?_, fun i j p q b1 b2 hij hi hj hp hq => ?_, fun i b' g hi hg' => ?_, fun i hi => ?_, fun i b' p hi hp => ?_, h.size, h.glob⟩
  · rw [hb] at hi
    simp only [hne i p hp, if_false] at hi
    exact h.real i b' p hi hp
  · rw [hb] at hi hj
    simp only [hne i p hp, hne j q hq, if_false] at hi hj
    exact h.sep i j p q b1 b2 hij hi hj hp hq
  · rw [hb] at hi
    rw [hg]
    by_cases e1 : i = m.next
    · simp only [e1, if_true] at hi
      cases hi
      rw [hbg] at hg'; cases hg'
    · simp only [e1, if_false] at hi
      exact h.grp i b' g hi hg'
  · have : i ≠ m.next := by omega
    rw [hb]
    simp only [this, if_false]
    exact h.fresh i (by omega)
  · rw [hb] at hi
    simp only [hne i p hp, if_false] at hi
    exact h.frame i b' p hi hp

theorem finish_tb {e : Env} {c : Ctx} {tb : Tr AVal} {ds ds' : List ADef} {fr : Frame} {v : AVal} {V : Value} {D' : List Deferred} {ops : Array Oper} {i : Nat} {rest : List Nat} {K : List Item} {o : Oper}
    (hf : FrB e c tb ds .run fr) (hv : VRel e v V) (hd : DefsRel e ds' D') (ht : fr.todo = .inRegion ops (i :: rest) :: K) (ho : ops[i]? = some o) (hn : ∀ d, o.dst = some d → d < c.nt) :
    ∃ tb' : Tr AVal, (∀ t, tb'.get t = putF o v tb.get t) ∧ FrB e c tb' ds' .run (({ fr with defers := D' } : Frame).finish V) ∧ (({ fr with defers := D' } : Frame).finish V).todo = .inRegion ops rest :: K := by
  cases hdst : o.dst with
  | none =>
    have hfin : ({ fr with defers := D' } : Frame).finish V = { fr with defers := D', todo := .inRegion ops rest :: K } := by
      simp [Frame.finish, ht, ho, hdst]
    rw [hfin]
    exact ⟨tb, fun t => by simp [putF, hdst], ⟨hf.fn, hf.tmps, hd, hf.mode, hf.kind, hf.rnd⟩, rfl⟩
  | some d =>
    have hfin : ({ fr with defers := D' } : Frame).finish V = { fr with defers := D', tmps := fr.tmps.setIfInBounds d V, todo := .inRegion ops rest :: K } := by
      simp [Frame.finish, ht, ho, hdst]
    rw [hfin]
    obtain ⟨tb', h1⟩ := tb.set_ex d (some v)
    have hlt := hn d hdst
    refine ⟨tb', fun t => ?_, ⟨hf.fn, ⟨by simp [hf.tmps.1], fun i => ?_⟩, hd, hf.mode, hf.kind, hf.rnd⟩, rfl⟩
    · rw [h1]
      unfold putF
      rw [hdst]
      by_cases e1 : t = d
      · simp [e1]
      · have : (some d : Option Nat) ≠ some t := fun hh => e1 (by cases hh; rfl)
        simp [e1, this]
    · rw [h1]
      by_cases e1 : i = d
      · subst e1
        simp only [if_true, Option.getD_some]
        rw [Array.getD_eq_getD_getElem?, Array.getElem?_setIfInBounds]
        simp [hf.tmps.1, hlt, hv]
      · simp only [e1, if_false]
        have := hf.tmps.2 i
        rw [Array.getD_eq_getD_getElem?, Array.getElem?_setIfInBounds]
        simp only [Ne.symm e1, if_false]
        rw [← Array.getD_eq_getD_getElem?]
        exact this

theorem stepOp_ds {T : Tab} {run : Run} {c : Ctx} {o : Oper} {tm : Tr AVal} (ho : ∀ cl, o.op ≠ .defer cl) (ds ds0 : List ADef) (cm : AMode) (m : AMem) (kv : AVal → List ADef → AMode → AMem → Option (List ARes)) (kp : List APan → AMem → Option (List ARes)) :
    stepOp T run c o tm ds cm m kv kp = stepOp T run c o tm ds0 cm m (fun v _ cm' m' => kv v ds cm' m') kp := by
  obtain ⟨dst, op, ty, pos, after, guard⟩ := o
  dsimp only at ho
  cases op with
  | defer cl => exact (ho cl rfl).elim
  | call cl =>
    unfold stepOp
    obtain ⟨cal, args, ats⟩ := cl
    cases cal with
    | builtin b => cases b <;> rfl
    | _ => rfl
  | next x s => cases s <;> (unfold stepOp; rfl)
  | _ => unfold stepOp; rfl

theorem stepOp_plan {T : Tab} {run : Run} {c : Ctx} {o : Oper} {tm : Tr AVal} {cm : AMode} {m : AMem} {kv : AVal → List ADef → AMode → AMem → Option (List ARes)} {kp : List APan → AMem → Option (List ARes)} {L : List ARes}
    (hk : ∀ v d l cm' m', kv v (d :: l) cm' m' = none) (h : stepOp T run c o tm [] cm m kv kp = some L) (ds : List ADef) (kv' : AVal → List ADef → AMode → AMem → Option (List ARes)) (hk' : ∀ v cm' m', kv' v ds cm' m' = kv v [] cm' m') :
    stepOp T run c o tm ds cm m kv' kp = some L := by
  by_cases ho : ∀ cl, o.op ≠ .defer cl
  · rw [stepOp_ds ho ds [] cm m kv' kp]
    simp only [hk']
    rw [← stepOp_ds ho [] [] cm m kv kp]
    exact h
  · exfalso
    have : ∃ cl, o.op = .defer cl := Classical.byContradiction fun hh => ho fun cl hc => hh ⟨cl, hc⟩
    obtain ⟨cl, hcl⟩ := this
    unfold stepOp at h
    rw [hcl] at h
    dsimp only at h
    split at h
    · unfold adefer at h
      simp only [hk] at h
      split at h
      · split at h
        · rw [appK_eq] at h; cases h
        · cases h
      · split at h <;> cases h
      · cases h
    · cases h
end Go.Proofs.YtplgnjpeikamhaaGreatDoor.Xec

namespace Go.Proofs.YtplgnjpeikamhaaGreatDoor.Xec
variable {α β : Type}

def Done (listed : Array Bool) (j : Nat) : Prop := listed.getD j false = true

theorem done_set {listed : Array Bool} {x : Nat} (hx : x < listed.size) (j : Nat) : Done (listed.setIfInBounds x true) j ↔ Done listed j ∨ x = j := by
  unfold Done
  rw [Array.getD_eq_getD_getElem?, Array.getD_eq_getD_getElem?, Array.getElem?_setIfInBounds]
  by_cases h : x = j
  · subst h; simp [hx]
  · simp [h]

structure PInv (P : Program) (T : Tab) (ops : Array Oper) (rows : List Row) (nt n0 : Nat) (e : Env) (m : AMem) (listed : Array Bool) (D : Nat) (pend : List Pd) (ts : List Taken) (tb tm : Tr AVal) : Prop where
  size : listed.size = ops.size
  downS : Down ops (Done listed)
  downD : Down ops (fun j => Nat.testBit D j = true)
  iff : ∀ j, Nat.testBit D j = true ↔ Done listed j ∨ ∃ p ∈ pend, p.i = j
  notS : ∀ p ∈ pend, ¬ Done listed p.i
  op : ∀ p ∈ pend, ops[p.i]? = some p.o
  lon : ∀ p ∈ pend, lonely ops.toList rows p.i p.o = true
  ord : pend.Pairwise fun q p => q.i ≠ p.i ∧ (∀ o dm b, (q.i, o, dm, b) ∈ rows → Nat.testBit b p.i = false) ∧ ∀ id b id' b', q.wh = .alc id b → p.wh = .alc id' b' → id ≠ id'
  pds : Pds ops.toList pend tb.get (Done listed)
  tm : ∀ t, tm.get t = over pend tb.get t
  fit : ∀ p ∈ pend, Fit P T ops.toList nt n0 e m ts p

section
variable {P : Program} {T : Tab} {ops : Array Oper} {rows : List Row} (hrows : ∀ x ∈ rows, RowOk ops x) (hall : ∀ j, j < ops.size → ∃ x ∈ rows, x.1 = j)
variable {nt n0 : Nat} {e : Env} {m : AMem} {listed : Array Bool} {D : Nat} {ts : List Taken} {tb tm : Tr AVal}

include hrows hall
theorem row_of {x : Nat} {o : Oper} (ho : ops[x]? = some o) : ∃ b, (x, o, depMask o, b) ∈ rows ∧ RowOk ops (x, o, depMask o, b) := by
  obtain ⟨y, hy, rfl⟩ := hall x (Array.getElem?_eq_some_iff.1 ho).1
  obtain ⟨x, o', dm, b⟩ := y
  have hr := hrows _ hy
  obtain ⟨h1, h2, h3⟩ := hr
  dsimp only at h1 h2 ho
  rw [ho] at h1
  cases h1
  subst h2
  exact ⟨b, hy, hrows _ hy⟩

theorem PInv.ahead {A : List Pd} {p : Pd} {B : List Pd} (h : PInv P T ops rows nt n0 e m listed D (A ++ p :: B) ts tb tm) (hdep : ∀ q, Nat.testBit (depMask p.o) q = true → Done listed q) :
    ∀ a ∈ A, ∀ d, a.o.dst = some d → sees ops.toList d p.o = false ∧ p.o.dst ≠ some d := by
  intro a ha d hd
  have hp : p ∈ A ++ p :: B := by simp
  have ha' : a ∈ A ++ p :: B := by simp [ha]
  obtain ⟨b, h1, h2⟩ := row_of hrows hall (h.op p hp)
  have hne := ((List.pairwise_append.1 h.ord).2.2 a ha p (by simp)).1
  refine lonely_use (h.lon a ha') hd h1 hne ?_
  cases hb : Nat.testBit b a.i with
  | false => rfl
  | true => exact (h.notS a ha' (h2.2.2 (Done listed) h.downS hdep _ hb)).elim

theorem PInv.behind {A : List Pd} {p : Pd} {B : List Pd} (h : PInv P T ops rows nt n0 e m listed D (A ++ p :: B) ts tb tm) :
    ∀ a ∈ A, ∀ d, p.o.dst = some d → sees ops.toList d a.o = false ∧ a.o.dst ≠ some d := by
  intro a ha d hd
  have hp : p ∈ A ++ p :: B := by simp
  have ha' : a ∈ A ++ p :: B := by simp [ha]
  obtain ⟨b, h1, h2⟩ := row_of hrows hall (h.op a ha')
  have hne := (List.pairwise_append.1 h.ord).2.2 a ha p (by simp)
  exact lonely_use (h.lon p hp) hd h1 (Ne.symm hne.1) (hne.2.1 _ _ _ h1)

theorem PInv.at {A : List Pd} {p : Pd} {B : List Pd} (h : PInv P T ops rows nt n0 e m listed D (A ++ p :: B) ts tb tm) (hdep : ∀ q, Nat.testBit (depMask p.o) q = true → Done listed q) :
    ∀ t, sees ops.toList t p.o = true → p.tm.get t = tb.get t := by
  intro t ht
  have h1 := (Pds.append.1 h.pds).2
  rw [h1.1 t ht]
  refine over_same A _ t (fun a ha hd => ?_)
  have := (h.ahead hrows hall hdep a ha t hd).1
  rw [ht] at this; cases this

theorem PInv.drop {A : List Pd} {p : Pd} {B : List Pd} (h : PInv P T ops rows nt n0 e m listed D (A ++ p :: B) ts tb tm) (hdep : ∀ q, Nat.testBit (depMask p.o) q = true → Done listed q) {tb' : Tr AVal} (ht : ∀ t, tb'.get t = putF p.o p.v tb.get t) {e' : Env}
    (hfit : ∀ q ∈ A ++ B, Fit P T ops.toList nt n0 e' m ts q) : PInv P T ops rows nt n0 e' m (listed.setIfInBounds p.i true) D (A ++ B) ts tb' tm := by
  have hp : p ∈ A ++ p :: B := by simp
  have hop := h.op p hp
  have hx : p.i < listed.size := by rw [h.size]; exact (Array.getElem?_eq_some_iff.1 hop).1
  have hsub : ∀ q ∈ A ++ B, q ∈ A ++ p :: B := fun q hq => by
    rcases List.mem_append.1 hq with hq | hq
    · simp [hq]
    · simp [hq]
  have hget : tb'.get = putF p.o p.v tb.get := funext ht
  obtain ⟨o1, o2, o3⟩ := List.pairwise_append.1 h.ord
  obtain ⟨o4, o5⟩ := List.pairwise_cons.1 o2
  have hne : ∀ q ∈ A ++ B, p.i ≠ q.i := fun q hq => by
    rcases List.mem_append.1 hq with hq | hq
    · exact Ne.symm (o3 q hq p (by simp)).1
    · exact (o4 q hq).1
  have hbeh := h.behind hrows hall
  refine ⟨by simp [h.size], ?_, h.downD, ?_, ?_, fun q hq => h.op q (hsub q hq), fun q hq => h.lon q (hsub q hq), ?_, ?_, ?_, hfit⟩
  · intro j o hj ho q hq
    rw [done_set hx] at hj ⊢
    rcases hj with hj | rfl
    · exact .inl (h.downS j o hj ho q hq)
    · rw [hop] at ho
      cases ho
      exact .inl (hdep q hq)
  · intro j
    rw [done_set hx, h.iff]
    simp only [List.mem_append, List.mem_cons]
    constructor
    · rintro (hd | ⟨q, (hq | rfl | hq), rfl⟩)
      · exact .inl (.inl hd)
      · exact .inr ⟨q, .inl hq, rfl⟩
      · exact .inl (.inr rfl)
      · exact .inr ⟨q, .inr hq, rfl⟩
    · rintro ((hd | rfl) | ⟨q, (hq | hq), rfl⟩)
      · exact .inl hd
      · exact .inr ⟨p, .inr (.inl rfl), rfl⟩
      · exact .inr ⟨q, .inl hq, rfl⟩
      · exact .inr ⟨q, .inr (.inr hq), rfl⟩
  · intro q hq
    rw [done_set hx]
    rintro (hd | hd)
    · exact h.notS q (hsub q hq) hd
    · exact hne q hq hd
  · exact List.pairwise_append.2 ⟨o1, o5, fun a ha b hb => o3 a ha b (by simp [hb])⟩
  · obtain ⟨p1, p2⟩ := Pds.append.1 h.pds
    obtain ⟨p3, p4, p5⟩ := p2
    rw [hget]
    refine Pds.append.2 ⟨(Pds.put hbeh p1).mono (fun j hj => (done_set hx j).2 (.inl hj)), ?_⟩
    rw [over_put A _ (fun a ha d hd => (hbeh a ha d hd).2)]
    refine p5.mono (fun j hj => ?_)
    rw [done_set hx]
    rcases hj with (hj | hj) | hj
    · exact .inl (.inl hj)
    · exact .inr hj
    · exact .inl (.inr hj)
  · intro t
    rw [h.tm t, over_append, over_append, hget]
    simp only [over]
    rw [over_put A _ (fun a ha d hd => (hbeh a ha d hd).2)]

/-- an operation is taken -/
theorem PInv.take {pend : List Pd} (h : PInv P T ops rows nt n0 e m listed D pend ts tb tm) {i dm b : Nat} {o : Oper} (hm : (i, o, dm, b) ∈ rows) (hD : Nat.testBit D i = false) (hdm : ∀ q, Nat.testBit dm q = true → Nat.testBit D q = true)
    (hlon : lonely ops.toList rows i o = true) {m' : AMem} {ts' : List Taken} {tm' : Tr AVal} {v : AVal} {wh : What} (ht : ∀ t, tm'.get t = putF o v tm.get t)
    (hwh : ∀ id b, wh = .alc id b → ∀ p ∈ pend, ∀ id' b', p.wh = .alc id' b' → id' ≠ id)
    (hfit : ∀ q ∈ pend ++ [⟨i, o, tm, v, wh⟩], Fit P T ops.toList nt n0 e m' ts' q) : PInv P T ops rows nt n0 e m' listed (Nat.lor D (2 ^ i)) (pend ++ [⟨i, o, tm, v, wh⟩]) ts' tb tm' := by
  have hr := hrows _ hm
  obtain ⟨hop, hdep, hbef⟩ := hr
  dsimp only at hop hdep hbef
  subst hdep
  have hD' : ∀ j, Nat.testBit (Nat.lor D (2 ^ i)) j = true ↔ Nat.testBit D j = true ∨ i = j := fun j => by rw [testBit_lor, testBit_pow]; simp
  have hni : ∀ p ∈ pend, p.i ≠ i := fun p hp hh => by
    have := (h.iff p.i).2 (.inr ⟨p, hp, rfl⟩)
    rw [hh, hD] at this; cases this
  refine ⟨h.size, h.downS, ?_, ?_, ?_, ?_, ?_, ?_, ?_, ?_, hfit⟩
  · intro j o' hj ho q hq
    rw [hD'] at hj ⊢
    rcases hj with hj | rfl
    · exact .inl (h.downD j o' hj ho q hq)
    · rw [hop] at ho; cases ho
      exact .inl (hdm q hq)
  · intro j
    rw [hD', h.iff]
    simp only [List.mem_append, List.mem_singleton]
    constructor
    · rintro ((hd | ⟨p, hp, rfl⟩) | rfl)
      · exact .inl hd
      · exact .inr ⟨p, .inl hp, rfl⟩
      · exact .inr ⟨_, .inr rfl, rfl⟩
    · rintro (hd | ⟨p, (hp | rfl), rfl⟩)
      · exact .inl (.inl hd)
      · exact .inl (.inr ⟨p, hp, rfl⟩)
      · exact .inr rfl
  · intro p hp
    rcases List.mem_append.1 hp with hp | hp
    · exact h.notS p hp
    · rw [List.mem_singleton.1 hp]
      intro hd
      have := (h.iff i).2 (.inl hd)
      rw [hD] at this; cases this
  · intro p hp
    rcases List.mem_append.1 hp with hp | hp
    · exact h.op p hp
    · rw [List.mem_singleton.1 hp]; exact hop
  · intro p hp
    rcases List.mem_append.1 hp with hp | hp
    · exact h.lon p hp
    · rw [List.mem_singleton.1 hp]; exact hlon
  · refine List.pairwise_append.2 ⟨h.ord, List.pairwise_singleton _ _, fun p hp q hq => ?_⟩
    rw [List.mem_singleton.1 hq]
    refine ⟨hni p hp, fun o' dm' b' hrow => ?_, fun id b id' b' h1 h2 => hwh id' b' h2 p hp id b h1⟩
    cases hb : Nat.testBit b' i with
    | false => rfl
    | true =>
      have hr' := hrows _ hrow
      obtain ⟨g1, g2, g3⟩ := hr'
      dsimp only at g1 g2 g3
      have := g3 (fun j => Nat.testBit D j = true) h.downD (fun q hq => h.downD p.i o' ((h.iff p.i).2 (.inr ⟨p, hp, rfl⟩)) g1 q hq) i hb
      rw [hD] at this; cases this
  · refine Pds.append.2 ⟨h.pds, fun t _ => h.tm t, fun q hq => (h.iff q).1 (hdm q hq), trivial⟩
  · intro t
    rw [ht t, over_append]
    show _ = putF o v (over pend tb.get) t
    have : tm.get = over pend tb.get := funext h.tm
    rw [this]

/-- an operation is carried out at once -/
theorem PInv.act {pend : List Pd} (h : PInv P T ops rows nt n0 e m listed D pend ts tb tm) {i dm b : Nat} {o : Oper} (hm : (i, o, dm, b) ∈ rows) (hD : Nat.testBit D i = false) (hdm : ∀ q, Nat.testBit dm q = true → Done listed q)
    (hq : quiet ops.toList rows D i o b = true) {e' : Env} {m' : AMem} {ts' : List Taken} {tb' tm' : Tr AVal} {v : AVal} (ht : ∀ t, tm'.get t = putF o v tm.get t) (htb : ∀ t, tb'.get t = putF o v tb.get t)
    (hfit : ∀ q ∈ pend, Fit P T ops.toList nt n0 e' m' ts' q) : PInv P T ops rows nt n0 e' m' (listed.setIfInBounds i true) (Nat.lor D (2 ^ i)) pend ts' tb' tm' := by
  have hr := hrows _ hm
  obtain ⟨hop, hdep, hbef⟩ := hr
  dsimp only at hop hdep hbef
  subst hdep
  have hx : i < listed.size := by rw [h.size]; exact (Array.getElem?_eq_some_iff.1 hop).1
  have hD' : ∀ j, Nat.testBit (Nat.lor D (2 ^ i)) j = true ↔ Nat.testBit D j = true ∨ i = j := fun j => by rw [testBit_lor, testBit_pow]; simp
  have hni : ∀ p ∈ pend, p.i ≠ i := fun p hp hh => by
    have := (h.iff p.i).2 (.inr ⟨p, hp, rfl⟩)
    rw [hh, hD] at this; cases this
  have hquiet : ∀ p ∈ pend, ∀ d, o.dst = some d → sees ops.toList d p.o = false ∧ p.o.dst ≠ some d := fun p hp d hd => by
    obtain ⟨bp, h1, h2⟩ := row_of hrows hall (h.op p hp)
    refine quiet_use hq hd h1 ((h.iff p.i).2 (.inr ⟨p, hp, rfl⟩)) ?_
    cases hb : Nat.testBit b p.i with
    | false => rfl
    | true => exact (h.notS p hp (hbef _ h.downS hdm _ hb)).elim
  have hget : tb'.get = putF o v tb.get := funext htb
  refine ⟨by simp [h.size], ?_, ?_, ?_, ?_, h.op, h.lon, h.ord, ?_, ?_, hfit⟩
  · intro j o' hj ho q hq
    rw [done_set hx] at hj ⊢
    rcases hj with hj | rfl
    · exact .inl (h.downS j o' hj ho q hq)
    · rw [hop] at ho; cases ho
      exact .inl (hdm q hq)
  · intro j o' hj ho q hq
    rw [hD'] at hj ⊢
    rcases hj with hj | rfl
    · exact .inl (h.downD j o' hj ho q hq)
    · rw [hop] at ho; cases ho
      exact .inl ((h.iff q).2 (.inl (hdm q hq)))
  · intro j
    rw [hD', h.iff, done_set hx]
    constructor
    · rintro ((hd | hd) | rfl)
      · exact .inl (.inl hd)
      · exact .inr hd
      · exact .inl (.inr rfl)
    · rintro ((hd | rfl) | hd)
      · exact .inl (.inl hd)
      · exact .inr rfl
      · exact .inl (.inr hd)
  · intro p hp
    rw [done_set hx]
    rintro (hd | hd)
    · exact h.notS p hp hd
    · exact hni p hp hd.symm
  · rw [hget]
    exact (Pds.put hquiet h.pds).mono (fun j hj => (done_set hx j).2 (.inl hj))
  · intro t
    rw [ht t, hget, over_put _ _ (fun a ha d hd => (hquiet a ha d hd).2)]
    have : tm.get = over pend tb.get := funext h.tm
    rw [this]

/-- what an act sees is what stands -/
theorem PInv.seen {pend : List Pd} (h : PInv P T ops rows nt n0 e m listed D pend ts tb tm) {i dm b : Nat} {o : Oper} (hm : (i, o, dm, b) ∈ rows) (hD : Nat.testBit D i = false) (hdm : ∀ q, Nat.testBit dm q = true → Done listed q) :
    ∀ t, sees ops.toList t o = true → tm.get t = tb.get t := by
  intro t ht
  have hr := hrows _ hm
  obtain ⟨hop, hdep, hbef⟩ := hr
  dsimp only at hop hdep hbef
  subst hdep
  rw [h.tm t]
  refine over_same pend _ t (fun p hp hd => ?_)
  have hni : p.i ≠ i := fun hh => by
    have := (h.iff p.i).2 (.inr ⟨p, hp, rfl⟩)
    rw [hh, hD] at this; cases this
  have hb : Nat.testBit b p.i = false := by
    cases hb : Nat.testBit b p.i with
    | false => rfl
    | true => exact (h.notS p hp (hbef _ h.downS hdm _ hb)).elim
  have := (lonely_use (h.lon p hp) hd hm hni hb).1
  rw [ht] at this; cases this
end
end Go.Proofs.YtplgnjpeikamhaaGreatDoor.Xec

namespace Go.Proofs.YtplgnjpeikamhaaGreatDoor.Xec
variable {α β : Type}

def PlanEnd (P : Program) (T : Tab) (F : Nat → Prop) (c : Ctx) (ds : List ADef) (K : List Item) (m0 : AMem) (k : Tr AVal → AMode → AMem → Option (List ARes)) (e : Env) (w : World) (cs : List Frame) (fr : Frame) (L : List ARes) : Prop :=
  ∃ tm' cm' m' L1 e' w' fr' cs', k tm' cm' m' = some L1 ∧ L1 ⊆ L ∧ Steps P (lone fr cs w) (lone fr' cs' w') ∧ FrB e' c tm' ds .run fr' ∧ fr'.todo = K ∧ Rel T F e' m' w' ∧ Ext m0 e e' ∧ m0.next ≤ m'.next ∧ Keep F w w' ∧ CsAfter c cs cs' ∧ CsRel e' c cm' cs'

theorem PlanEnd.after {P : Program} {T : Tab} {F : Nat → Prop} {c : Ctx} {ds : List ADef} {K : List Item} {m0 : AMem} {k : Tr AVal → AMode → AMem → Option (List ARes)} {e e1 : Env} {w w1 : World} {cs cs1 : List Frame} {fr fr1 : Frame} {L L1 : List ARes}
    (hs : Steps P (lone fr cs w) (lone fr1 cs1 w1)) (hx : Ext m0 e e1) (hk : Keep F w w1) (hc : CsAfter c cs cs1) (hl : L1 ⊆ L) (h : PlanEnd P T F c ds K m0 k e1 w1 cs1 fr1 L1) : PlanEnd P T F c ds K m0 k e w cs fr L := by
  obtain ⟨tm', cm', m', L2, e', w', fr', cs', h1, h2, h3, h4, h5, h6, h7, h8, h9, h10, h11⟩ := h
  exact ⟨tm', cm', m', L2, e', w', fr', cs', h1, fun x hx => hl (h2 hx), hs.trans h3, h4, h5, h6, hx.trans h7 (Nat.le_refl _), h8, hk.trans h9, hc.trans h10, h11⟩

theorem deps_of {ops : Array Oper} {listed : Array Bool} {i : Nat} {o : Oper} (hi : i ∈ Region.ready .any ops listed) (ho : ops[i]? = some o) : ¬ Done listed i ∧ ∀ q, Nat.testBit (depMask o) q = true → Done listed q := by
  obtain ⟨h1, o', h2, h3⟩ := mem_ready.1 hi
  rw [ho] at h2
  cases h2
  refine ⟨fun hd => ?_, fun q hq => ?_⟩
  · unfold Done at hd
    have hlt : i < listed.size := by
      rcases Nat.lt_or_ge i listed.size with h | h
      · exact h
      · rw [Array.getD_eq_getD_getElem?, Array.getElem?_eq_none h] at hd; cases hd
    rw [Array.getD_eq_getD_getElem?, Array.getElem?_eq_getElem hlt] at h1 hd
    simp only [Option.getD_some] at h1 hd
    rw [h1] at hd; cases hd
  · obtain ⟨ed, g1, g2, g3⟩ := depMask_bit.1 hq
    unfold Done
    rw [← g3]
    exact h3 ed g1 g2

theorem ready_of {ops : Array Oper} {listed : Array Bool} {i : Nat} {o : Oper} (hs : listed.size = ops.size) (ho : ops[i]? = some o) (hn : ¬ Done listed i) (hd : ∀ q, Nat.testBit (depMask o) q = true → Done listed q) : i ∈ Region.ready .any ops listed := by
  refine mem_ready.2 ⟨?_, o, ho, fun ed h1 h2 => hd _ (depMask_bit.2 ⟨ed, h1, h2, rfl⟩)⟩
  unfold Done at hn
  have hlt : i < listed.size := by rw [hs]; exact (Array.getElem?_eq_some_iff.1 ho).1
  rw [Array.getD_eq_getD_getElem?, Array.getElem?_eq_getElem hlt] at hn ⊢
  simpa using hn

section
variable {P : Program} {T : Tab} (hT : TabOk P T) {F : Nat → Prop}
include hT

/-- an operation that was taken is carried out -/
theorem taken_ok {ops : Array Oper} {c : Ctx} {m0 m : AMem} {e : Env} {w : World} {ts : List Taken} {p : Pd} {tb : Tr AVal} {ds : List ADef} {fr : Frame} {cs : List Frame} {rest : List Nat} {K : List Item}
    (hR : Rel T F e m w) (hf : FrB e c tb ds .run fr) (ht : fr.todo = .inRegion ops (p.i :: rest) :: K) (ho : ops[p.i]? = some p.o) (hfit : Fit P T ops.toList c.nt m0.next e m ts p) (hat : ∀ t, sees ops.toList t p.o = true → p.tm.get t = tb.get t) :
    ∃ e' w' fr' tb', Steps P (lone fr cs w) (lone fr' cs w') ∧ Rel T F e' m w' ∧ FrB e' c tb' ds .run fr' ∧ fr'.todo = .inRegion ops rest :: K ∧ e.le e' ∧ Ext m0 e e' ∧ Keep F w w' ∧ (∀ t, tb'.get t = putF p.o p.v tb.get t) ∧
      (e' = e ∨ ∃ id b q, p.wh = .alc id b ∧ e' = e.add id q) := by
  obtain ⟨hn, hfit⟩ := hfit
  have hw : wantedB ops.toList p.tm p.o = wantedB ops.toList tb p.o := sees_wanted hat
  have hevq := sees_eval hat T.ng
  have hnd : ∀ {kd}, kindOf T p.o.op = kd → kd ≠ .act → ∀ cl, p.o.op ≠ .defer cl := fun {kd} hk hne cl hcl => by rw [hcl] at hk; exact hne hk.symm
  split at hfit
  · obtain ⟨h1, h2⟩ := hfit
    rw [hw] at h1
    have h1 := wanted_ok hf.tmps h1
    obtain ⟨tb', k1, k2, k3⟩ := finish_tb hf (undef_rel e) hf.defers ht ho hn
    exact ⟨e, w, _, tb', .one (step_lone_go (g_noop hf.mode ht (by simp [ho, h1]))), hR, k2, k3, hR.le (Ext.refl m e), Ext.refl _ e, Keep.refl F w, by rw [h2]; exact k1, .inl rfl⟩
  · obtain ⟨h1, h2, h3, h4⟩ := hfit
    rw [hw] at h1
    have h1 := wanted_ok hf.tmps h1
    rw [aplain_congr hevq] at h3
    obtain ⟨a, g1, V, g2, g3⟩ := aplain_pure (P := P) hT hR h2 (ev := evalO T.ng tb) (ρ := fr.eval) (fun x a hx => evalO_ok hR hf.tmps x a hx) h3
    cases g1
    obtain ⟨tb', k1, k2, k3⟩ := finish_tb hf g2 hf.defers ht ho hn
    have hop := g_op (P := P) (cs := cs) (w := w) hf.mode ht ho h1 (.inr (hnd h2 (by simp)))
    exact ⟨e, w, _, tb', .one (step_lone_go (hop.trans (g_apply_value g3))), hR, k2, k3, hR.le (Ext.refl m e), Ext.refl _ e, Keep.refl F w, k1, .inl rfl⟩
  · rename_i id b hwh
    obtain ⟨h1, ⟨a1, a2, a3⟩, ⟨h3, h4, h5⟩, ⟨b', h6, h7⟩, h8⟩ := hfit
    rw [hw] at h1
    have h1 := wanted_ok hf.tmps h1
    have hev : ∀ x a, evR T p.tm p.o x = some a → VRel e a (fr.eval x) := fun x a hx => by
      unfold evR at hx
      split at hx
      · rename_i hmem
        rw [hevq x hmem] at hx
        exact evalO_ok hR hf.tmps x a hx
      · cases hx
    obtain ⟨ob, V, g1, g2⟩ := a3 fr.eval e w hev
    have hle0 : e.le (e.add id ⟨w.heap.size, 0, 0⟩) := ⟨rfl, fun i p hp => by
      have : i ≠ id := fun hh => by rw [hh, h5] at hp; cases hp
      simp [Env.add, this, hp]⟩
    obtain ⟨g3, g4⟩ := g2 (e.add id ⟨w.heap.size, 0, 0⟩) hle0 (by simp [Env.add])
    obtain ⟨r1, r2, r3⟩ := hR.realize h6 h5 ob (h7 _ _ _ (g4 _ (by simp)))
    obtain ⟨tb', k1, k2, k3⟩ := finish_tb (hf.mono r2) g3 (hf.defers.mono r2) ht ho hn
    have hnd' : ∀ cl, p.o.op ≠ .defer cl := by
      intro cl hcl
      have : (execOp fr.eval p.o).run P w = (do let d ← resolve fr.eval cl p.o.type; Pure.pure (Next.defer d) : Sem Next).run P w := by unfold execOp; rw [hcl]
      rw [this] at g1
      simp only [Sem.run_bind] at g1
      cases hr : (resolve fr.eval cl p.o.type).run P w with
      | ok d w' => rw [hr] at g1; simp at g1
      | halt h w' => rw [hr] at g1; simp at g1
    have hop := g_op (P := P) (cs := cs) (w := w) hf.mode ht ho h1 (.inr hnd')
    refine ⟨_, _, _, tb', .one (step_lone_go (hop.trans (g_apply_value g1))), r1, k2, k3, r2, ⟨rfl, rfl, fun i hi => ?_⟩, r3, k1, .inr ⟨id, b, _, hwh, rfl⟩⟩
    have : i ≠ id := by omega
    simp [Env.add, this]
end
end Go.Proofs.YtplgnjpeikamhaaGreatDoor.Xec

namespace Go.Proofs.YtplgnjpeikamhaaGreatDoor.Xec
variable {α β : Type}

section
variable {P : Program} {T : Tab} (hT : TabOk P T) {F : Nat → Prop} {run : Run} (hS : Sound P T F run)
include hT hS

theorem plan_go {ops : Array Oper} {rows : List Row} (hrows : ∀ x ∈ rows, RowOk ops x) (hall : ∀ j, j < ops.size → ∃ x ∈ rows, x.1 = j) {c : Ctx} {ds : List ADef} {K : List Item} {m0 : AMem} {k : Tr AVal → AMode → AMem → Option (List ARes)} :
    ∀ (n : Nat) (l : List Nat) (pl : List PSt) (listed : Array Bool) (D : Nat) (pend : List Pd) (ts : List Taken) (tb tm : Tr AVal) (cm : AMode) (m : AMem) (L : List ARes) (e : Env) (w : World) (fr : Frame) (cs : List Frame),
    l.length + pl.length ≤ n → Lin ops listed l → PlanGood T ops rows D pl → PInv P T ops rows c.nt m0.next e m listed D pend ts tb tm → runPlan T run c ops.toList pl ts tm cm m k = some L →
    Rel T F e m w → FrB e c tb ds .run fr → CsRel e c cm cs → fr.todo = .inRegion ops l :: K → m0.next ≤ m.next → PlanEnd P T F c ds K m0 k e w cs fr L := by
  intro n
  induction n with
  | zero => ?_
  | succ n ih => ?_
  all_goals
    intro l pl listed D pend ts tb tm cm m L e w fr cs hn hlin hgood hinv h hR hf hcs ht hm0
    cases hlin with
    | done hready =>
      -- nothing is left
      have hnone : ∀ i o, ops[i]? = some o → (∀ q, Nat.testBit (depMask o) q = true → Done listed q) → Done listed i := fun i o ho hd => Classical.byContradiction fun hh => by
        have := ready_of hinv.size ho hh hd
        rw [hready] at this
        cases this
      have hp : pend = [] := by
        cases pend with
        | nil => rfl
        | cons p A =>
          exfalso
          exact hinv.notS p (by simp) (hnone p.i p.o (hinv.op p (by simp)) hinv.pds.2.1)
      subst hp
      cases hgood with
      | cons hmem hD hdm _ _ _ =>
        exfalso
        have hr := hrows _ hmem
        obtain ⟨hop, hdep, hbef⟩ := hr
        dsimp only at hop hdep
        subst hdep
        have hDS : ∀ q, Nat.testBit D q = true → Done listed q := fun q hq => by
          rcases (hinv.iff q).1 hq with h | ⟨p, hp, _⟩
          · exact h
          · cases hp
        have := (hinv.iff _).2 (.inl (hnone _ _ hop (fun q hq => hDS q (hdm q hq))))
        rw [hD] at this; cases this
      | nil _ =>
        simp only [runPlan] at h
        refine ⟨tm, cm, m, L, e, w, { fr with todo := K }, cs, h, fun _ h => h, .one (step_lone_go (g_region_end hf.mode ht)), ⟨hf.fn, ⟨hf.tmps.1, fun i => ?_⟩, hf.defers, hf.mode, hf.kind, hf.rnd⟩, rfl, hR, Ext.refl m0 e, hm0, Keep.refl F w, CsAfter.refl hcs, hcs⟩
        rw [hinv.tm i]
        exact hf.tmps.2 i
    | cons hi hlin => ?_
  · simp at hn
  · rename_i x l
    obtain ⟨_, o, hox, _⟩ := mem_ready.1 hi
    obtain ⟨hns, hdep⟩ := deps_of hi hox
    by_cases hx : ∃ p ∈ pend, p.i = x
    · -- it was taken ahead of its turn
      obtain ⟨p, hp, rfl⟩ := hx
      have hop := hinv.op p hp
      rw [hox] at hop
      cases hop
      obtain ⟨A, B, rfl⟩ := List.append_of_mem hp
      have hfit := hinv.fit p hp
      obtain ⟨e', w', fr', tb', g1, g2, g3, g4, g5, g6, g7, g8, g9⟩ := taken_ok hT (m0 := m0) (cs := cs) hR hf ht hox hfit (hinv.at hrows hall hdep)
      have hord := List.pairwise_append.1 hinv.ord
      have hinv' := hinv.drop hrows hall hdep g8 (e' := e') (fun q hq => by
        have hq' : q ∈ A ++ p :: B := by
          rcases List.mem_append.1 hq with hq | hq
          · simp [hq]
          · simp [hq]
        have hf0 := hinv.fit q hq'
        rcases g9 with rfl | ⟨id, b, pl, hwh, rfl⟩
        · exact hf0
        · refine hf0.add (fun id' b' hw' => ?_)
          rcases List.mem_append.1 hq with hq | hq
          · exact (hord.2.2 q hq p (by simp)).2.2 _ _ _ _ hw' hwh
          · exact Ne.symm (((List.pairwise_cons.1 hord.2.1).1 q hq).2.2 _ _ _ _ hwh hw'))
      exact (ih l pl _ D (A ++ B) ts tb' tm cm m L e' w' fr' cs (by simp only [List.length_cons] at hn; omega) hlin hgood hinv' h g2 g3 (hcs.mono g5) g4 hm0).after g1 g6 g7 (CsAfter.refl hcs) (fun _ h => h)
    · have hD : Nat.testBit D x = false := by
        cases hb : Nat.testBit D x with
        | false => rfl
        | true =>
          rcases (hinv.iff x).1 hb with hh | hh
          · exact (hns hh).elim
          · exact (hx hh).elim
      obtain ⟨bx, hrx, hrok⟩ := row_of hrows hall hox
      have hdD : ∀ q, Nat.testBit (depMask o) q = true → Nat.testBit D q = true := fun q hq => (hinv.iff q).2 (.inl (hdep q hq))
      cases hgood with
      | nil hdone =>
        exfalso
        have := hdone _ hrx
        dsimp only at this
        rw [hD] at this; cases this
      | cons hmem hDi hdm hk1 hk2 hgood =>
        rename_i i oi dm b kd pl
        simp only [List.length_cons] at hn
        have hunw : wantedB ops.toList tm oi = some false → kd ≠ .act → ∀ L, (putK c.nt tm oi.dst aundef fun tm' => runPlan T run c ops.toList pl ts tm' cm m k) = some L → PlanEnd P T F c ds K m0 k e w cs fr L := by
          intro hw hkd L h
          obtain ⟨tm', h1, h2, h3⟩ := putK_some h
          obtain ⟨_, hlon⟩ := hk1 hkd
          have hinv' := hinv.take hrows hall hmem hDi hdm hlon (wh := .unw) (m' := m) (ts' := ts) h2 (fun id b hh => by cases hh) (fun q hq => by
            rcases List.mem_append.1 hq with hq | hq
            · exact hinv.fit q hq
            · rw [List.mem_singleton.1 hq]
              exact ⟨h3, hw, rfl⟩)
          exact ih (x :: l) pl listed _ _ ts tb tm' cm m L e w fr cs (by simp only [List.length_cons]; omega) (.cons hi hlin) hgood hinv' h1 hR hf hcs ht hm0
        unfold runPlan at h
        cases hkd : kd with
        | pure =>
          rw [hkd] at h hunw
          obtain ⟨hkind, hlon⟩ := hk1 (by rw [hkd]; simp)
          rw [hkd] at hkind
          split at h
          · rename_i hw
            dsimp only at h
            split at h
            · rename_i v hv
              obtain ⟨tm', h1, h2, h3⟩ := putK_some h
              have hinv' := hinv.take hrows hall hmem hDi hdm hlon (wh := .pur) (m' := m) (ts' := ⟨i, oi, tm, v, none⟩ :: ts) h2 (fun id b hh => by cases hh) (fun q hq => by
                rcases List.mem_append.1 hq with hq | hq
                · exact (hinv.fit q hq).take (fun _ _ h => h) (Nat.le_refl _) (fun t ht => List.mem_cons_of_mem _ ht)
                · rw [List.mem_singleton.1 hq]
                  exact ⟨h3, hw, hkind, hv, List.mem_cons_self⟩)
              exact ih (x :: l) pl listed _ _ _ tb tm' cm m L e w fr cs (by simp only [List.length_cons]; omega) (.cons hi hlin) hgood hinv' h1 hR hf hcs ht hm0
            · cases h
          · rename_i hw
            exact hunw hw (by simp) _ h
          · cases h
        | alloc =>
          rw [hkd] at h hunw
          obtain ⟨hkind, hlon⟩ := hk1 (by rw [hkd]; simp)
          rw [hkd] at hkind
          split at h
          · rename_i hw
            dsimp only at h
            split at h
            · rename_i v m' hv
              obtain ⟨bs, nx, gs⟩ := m
              obtain ⟨bs', nx', gs'⟩ := m'
              dsimp only at h
              split at h
              · rename_i bl hbl
                obtain ⟨tm', h1, h2, h3⟩ := putK_some h
                have hv' : aplain T (evR T tm oi) oi.op ⟨bs, nx, gs⟩ pairK = some (v, ⟨bs', nx', gs'⟩) := by
                  rw [← hv]
                  exact aplain_congr (fun x hx => by unfold evR; rw [if_pos hx]) _ _
                obtain ⟨q1, q2, q3, q4⟩ := alloc_spec (P := P) hT hkind hv' (b := bl) hbl
                dsimp only at q1 q2 q3 q4 hm0
                have hbg : bl.grp = none := q4.1
                have hfr := hR.fresh nx (Nat.le_refl _)
                have hR' := hR.take (m' := ⟨bs', nx', gs'⟩) (b := bl) q1 q2 q3 hbg
                have hinv' := hinv.take hrows hall hmem hDi hdm hlon (wh := .alc nx bl) (m' := ⟨bs', nx', gs'⟩) (ts' := ⟨i, oi, tm, v, some (nx, bl)⟩ :: ts) h2 (fun id b hh p hp id' b' hw' => by
                    cases hh
                    have hf0 := (hinv.fit p hp).2
                    rw [hw'] at hf0
                    dsimp only at hf0
                    have := hf0.2.2.1.2.1
                    omega) (fun q hq => by
                  rcases List.mem_append.1 hq with hq | hq
                  · refine (hinv.fit q hq).take (fun j b' hj => ?_) (by dsimp only; omega) (fun t ht => List.mem_cons_of_mem _ ht)
                    dsimp only at hj ⊢
                    rw [q3]
                    have : j ≠ nx := fun hh => by rw [hh] at hj; rw [hfr.2] at hj; cases hj
                    simp [this, hj]
                  · rw [List.mem_singleton.1 hq]
                    exact ⟨h3, hw, q4, ⟨hm0, by dsimp only; omega, hfr.1⟩, ⟨bl, hbl, fun _ _ _ h => h⟩, List.mem_cons_self⟩)
                exact ih (x :: l) pl listed _ _ _ tb tm' cm _ L e w fr cs (by simp only [List.length_cons]; omega) (.cons hi hlin) hgood hinv' h1 hR' hf hcs ht (by dsimp only; omega)
              · cases h
            · cases h
          · rename_i hw
            exact hunw hw (by simp) _ h
          · cases h
        | act =>
          rw [hkd] at h
          obtain ⟨hq, hone⟩ := hk2 hkd
          have hxi := hone _ hrx hD hdD
          dsimp only at hxi
          subst hxi
          have hoi := (hrows _ hmem).1
          dsimp only at hoi
          rw [hox] at hoi
          cases hoi
          have hdm' := (hrows _ hmem).2.1
          dsimp only at hdm'
          subst hdm'
          have hseen := hinv.seen hrows hall hmem hDi hdep
          have hww := sees_wanted (ops := ops.toList) (o := o) hseen
          split at h
          · rename_i hw
            rw [hww] at hw
            have hw := wanted_ok hf.tmps hw
            dsimp only at h
            rw [stepOp_congr (sees_eval hseen T.ng)] at h
            have h2 := stepOp_plan (kv' := fun v ds' cm' m' => @ite _ (ds' = ds) (Classical.propDecidable _) (keepOk T b m' ts fun ts' => putK c.nt tm o.dst v fun tm' => runPlan T run c ops.toList pl ts' tm' cm' m' k) none) (by intros; rfl) h ds (by intros; simp)
            rcases stepOp_ok hT hS hR h2 hf hcs ht hox hw with ⟨v, ds', cm', m', L1, e', w', cs', V, D', g1, g2, g3, g4, g5, g6, g7, g8, g9, g10, g11⟩ | ⟨ch, m', L1, e', w', C, g1, _⟩
            · dsimp only at g1
              split at g1
              · rename_i hds
                subst hds
                obtain ⟨ts', j1, j2⟩ := keepOk_some _ _ _ g1
                obtain ⟨tm', h3, h4, h5⟩ := putK_some j1
                have hle := hR.le g7
                obtain ⟨tb', k1, k2, k3⟩ := finish_tb (hf.mono hle) g3 g4 ht hox h5
                have hbS : ∀ p ∈ pend, Nat.testBit b p.i = false := fun p hp => by
                  cases hb : Nat.testBit b p.i with
                  | false => rfl
                  | true => exact (hinv.notS p hp ((hrows _ hmem).2.2 _ hinv.downS hdep _ hb)).elim
                have hinv' := hinv.act hrows hall hmem hDi hdep hq (e' := e') (m' := m') (ts' := ts') h4 k1 (fun p hp => (hinv.fit p hp).act g7 g8 (fun t ht hti => j2 t ht (by rw [hti]; exact hbS p hp)))
                have hx0 : Ext m0 e e' := ⟨g7.sy, g7.it, fun i hi => g7.pl i (Nat.lt_of_lt_of_le hi hm0)⟩
                exact (ih l pl _ _ pend ts' tb' tm' cm' m' L1 e' w' _ cs' (by omega) hlin hgood hinv' h3 g6 k2 g11 k3 (Nat.le_trans hm0 g8)).after g5 hx0 g9 g10 g2
              · cases g1
            · cases g1
          · rename_i hw
            rw [hww] at hw
            have hw := wanted_ok hf.tmps hw
            obtain ⟨tm', h3, h4, h5⟩ := putK_some h
            obtain ⟨tb', k1, k2, k3⟩ := finish_tb hf (undef_rel e) hf.defers ht hox h5
            have hinv' := hinv.act hrows hall hmem hDi hdep hq (e' := e) (m' := m) (ts' := ts) h4 k1 hinv.fit
            exact (ih l pl _ _ pend ts tb' tm' cm m L e w _ cs (by omega) hlin hgood hinv' h3 hR k2 hcs k3 hm0).after (.one (step_lone_go (g_noop hf.mode ht (by simp [hox, hw])))) (Ext.refl _ e) (Keep.refl F w) (CsAfter.refl hcs) (fun _ h => h)
          · cases h

theorem planOk : PlanOk P T F run := by
  intro c tm ds cm m ops pl k L hpl h e w fr cs K t hR hf hcs ht
  unfold planOf at hpl
  have hgood := planGo_good _ _ _ hpl
  obtain ⟨hrows, hall⟩ := rowsOf_ok ops ops.toList 0 [] (by simp) (fun x hx => by cases hx) (fun j hj => by omega)
  rw [hT.mixed] at ht
  have hnd : ∀ j, ¬ Done (Array.replicate ops.size false) j := fun j hd => by
    unfold Done at hd
    rw [Array.getD_eq_getD_getElem?, Array.getElem?_replicate] at hd
    split at hd <;> cases hd
  exact plan_go hT hS hrows (by simpa using hall) (m0 := m) _ _ pl _ 0 [] [] tm tm cm m L e w fr cs (Nat.le_refl _) (schedule_lin ops t) hgood
    { size := by simp
      downS := fun j o hj => (hnd j hj).elim
      downD := fun j o hj => by simp at hj
      iff := fun j => ⟨fun hj => by simp at hj, fun hj => by
        rcases hj with hj | ⟨p, hp, _⟩
        · exact (hnd j hj).elim
        · cases hp⟩
      notS := fun p hp => by cases hp
      op := fun p hp => by cases hp
      lon := fun p hp => by cases hp
      ord := .nil
      pds := trivial
      tm := fun _ => rfl
      fit := fun p hp => by cases hp } h hR hf hcs ht (Nat.le_refl _)
end
end Go.Proofs.YtplgnjpeikamhaaGreatDoor.Xec

namespace Go.Proofs.YtplgnjpeikamhaaGreatDoor.Xec
variable {α β : Type}

/-! ### Back to what was known -/
mutual
theorem VRel.back {e e' : Env} (h : e.le e') : ∀ (a : AVal) (v0 v : Value), VRel e a v0 → VRel e' a v → VRel e a v
  | .bool _, _, _, _, hv => by simpa only [VRel] using hv
  | .int _ _, _, _, _, hv => by simpa only [VRel] using hv
  | .str _, _, _, _, hv => by simpa only [VRel] using hv
  | .nilp, _, _, _, hv => by simpa only [VRel] using hv
  | .ptr id off, v0, v, h0, hv => by
      simp only [VRel] at h0 hv ⊢
      obtain ⟨p0, hp0, rfl⟩ := h0
      obtain ⟨p, hp, rfl⟩ := hv
      rw [h.2 _ _ hp0] at hp
      cases hp
      exact ⟨p0, hp0, rfl⟩
  | .nils, _, _, _, hv => by simpa only [VRel] using hv
  | .slice id off len c, v0, v, h0, hv => by
      simp only [VRel] at h0 hv ⊢
      obtain ⟨p0, n0, hp0, hc0, rfl⟩ := h0
      obtain ⟨p, n, hp, hc, rfl⟩ := hv
      rw [h.2 _ _ hp0] at hp
      cases hp
      exact ⟨p0, n, hp0, hc, rfl⟩
  | .esl id, v0, v, h0, hv => by
      simp only [VRel] at h0 hv ⊢
      obtain ⟨p0, hp0, rfl⟩ := h0
      obtain ⟨p, hp, rfl⟩ := hv
      rw [h.2 _ _ hp0] at hp
      cases hp
      exact ⟨p0, hp0, rfl⟩
  | .nilm, _, _, _, hv => by simpa only [VRel] using hv
  | .map id, v0, v, h0, hv => by
      simp only [VRel] at h0 hv ⊢
      obtain ⟨p0, hp0, rfl⟩ := h0
      obtain ⟨p, hp, rfl⟩ := hv
      rw [h.2 _ _ hp0] at hp
      cases hp
      exact ⟨p0, hp0, rfl⟩
  | .func fn a b, v0, v, h0, hv => by
      simp only [VRel] at h0 hv ⊢
      obtain ⟨hn, fs0, cs0, h1, h2, rfl⟩ := h0
      obtain ⟨hn, fs, cs, h3, h4, rfl⟩ := hv
      exact ⟨hn, fs, cs, VRels.back h a fs0 fs h1 h3, VRels.back h b cs0 cs h2 h4, rfl⟩
  | .yld id, v0, v, h0, hv => by
      simp only [VRel] at h0 hv ⊢
      obtain ⟨p0, hp0, rfl⟩ := h0
      obtain ⟨p, hp, rfl⟩ := hv
      rw [h.2 _ _ hp0] at hp
      cases hp
      exact ⟨p0, hp0, rfl⟩
  | .nilf, _, _, _, hv => by simpa only [VRel] using hv
  | .iface t a, v0, v, h0, hv => by
      simp only [VRel] at h0 hv ⊢
      obtain ⟨u0, hu0, rfl⟩ := h0
      obtain ⟨u, hu, rfl⟩ := hv
      exact ⟨u, VRel.back h a u0 u hu0 hu, rfl⟩
  | .nili, _, _, _, hv => by simpa only [VRel] using hv
  | .agg l, v0, v, h0, hv => by
      simp only [VRel] at h0 hv ⊢
      obtain ⟨u0, hu0, rfl⟩ := h0
      obtain ⟨u, hu, rfl⟩ := hv
      exact ⟨u, VRels.back h l u0 u hu0 hu, rfl⟩
  | .tup l, v0, v, h0, hv => by
      simp only [VRel] at h0 hv ⊢
      obtain ⟨u0, hu0, rfl⟩ := h0
      obtain ⟨u, hu, rfl⟩ := hv
      exact ⟨u, VRels.back h l u0 u hu0 hu, rfl⟩
  | .sym _, _, _, _, hv => by simp only [VRel] at hv ⊢; rw [h.1]; exact hv
  | .symi _ _ _ _, _, _, _, hv => by simp only [VRel] at hv ⊢; rw [h.1]; exact hv
  | .syms _ _, _, _, _, hv => by simp only [VRel] at hv ⊢; rw [h.1]; exact hv
  | .junk, _, _, _, _ => by simp only [VRel]
theorem VRels.back {e e' : Env} (h : e.le e') : ∀ (l : List AVal) (vs0 vs : List Value), VRels e l vs0 → VRels e' l vs → VRels e l vs
  | [], _, [], _, _ => by simp only [VRels]
  | [], _, _ :: _, _, hv => by simp only [VRels] at hv
  | _ :: _, _, [], _, hv => by simp only [VRels] at hv
  | _ :: _, [], _ :: _, h0, _ => by simp only [VRels] at h0
  | a :: l, v0 :: vs0, v :: vs, h0, hv => by
      simp only [VRels] at h0 hv ⊢
      exact ⟨VRel.back h a v0 v h0.1 hv.1, VRels.back h l vs0 vs h0.2 hv.2⟩
end

theorem EntsRel.back {e e' : Env} (h : e.le e') {l : List AEnt} {xs0 xs : List MapEntry} (h0 : EntsRel e l xs0) (h1 : EntsRel e' l xs) : EntsRel e l xs := by
  induction h1 generalizing xs0 with
  | nil => exact .nil
  | cons g1 g2 g3 _ ih =>
    cases h0 with
    | cons k1 k2 k3 k4 => exact .cons (VRel.back h _ _ _ k1 g1) (VRel.back h _ _ _ k2 g2) g3 (ih k4)

theorem Real.back {T : Tab} {e e' : Env} {h0 h : Array Obj} {p : Plc} {b b' : ABlk} (hle : e.le e') (hit : e.it p.blk = e'.it p.blk) (hb : beqBlk b b' = true) (r0 : Real T e h0 p b) (r1 : Real T e' h p b') : Real T e h p b := by
  unfold beqBlk at hb
  split at hb
  · rename_i el g gb fz st ex n cs el' g' gb' fz' st' ex' n' cs'
    simp only [Bool.and_eq_true] at hb
    obtain ⟨⟨⟨⟨⟨⟨⟨h1, h2⟩, h3⟩, h4⟩, h5⟩, h6⟩, h7⟩, h8⟩ := hb
    obtain rfl := beq_nat.1 h1
    obtain rfl := beq_nat.1 h4
    obtain rfl := beq_nat.1 h7
    have h5 : st' = st := by cases st <;> cases st' <;> simp at h5 <;> rfl
    have h6 : ex' = ex := by cases ex <;> cases ex' <;> simp at h6 <;> rfl
    subst h5; subst h6
    split at h8
    · rename_i l l' hl hl'
      have hll := all2_eq (beqV_eq 20) h8
      subst hll
      obtain ⟨_, s1⟩ := readCells_spec _ _ _ _ hl
      obtain ⟨_, s2⟩ := readCells_spec _ _ _ _ hl'
      obtain ⟨c0, fr0, _, d2, _⟩ := r0
      obtain ⟨c, fr, c1, c2, c3⟩ := r1
      refine ⟨c, fr, c1, fun i hi => ?_, c3⟩
      obtain ⟨a, v, g1, g2, g3⟩ := c2 i hi
      obtain ⟨a0, v0, k1, k2, k3⟩ := d2 i hi
      have e1 := s1 i hi
      have e2 := s2 i hi
      rw [Nat.zero_add] at e1 e2
      rw [e2, ← e1, k1] at g1
      cases g1
      exact ⟨a, v, k1, g2, VRel.back hle _ _ _ k3 g3⟩
    · cases h8
  · simp only [Bool.and_eq_true] at hb
    obtain ⟨h1, h2⟩ := hb
    obtain rfl := beq_nat.1 h1
    obtain rfl := beqEnts_eq h2
    obtain ⟨xs0, _, g2⟩ := r0
    obtain ⟨xs, g3, g4⟩ := r1
    exact ⟨xs, g3, g2.back hle g4⟩
  · simp only [Bool.and_eq_true] at hb
    rw [natsEq_iff.1 hb.1, beq_nat.1 hb.2]
    exact r1
  · simp only [Bool.and_eq_true] at hb
    rw [optEq_eq hb.1.1.1, beq_nat.1 hb.1.1.2, natsEq_iff.1 hb.1.2, beq_nat.1 hb.2] at r0 ⊢
    rename_i a b l c a' b' l' c'
    obtain ⟨r, g1, g2, g3⟩ := r1
    obtain ⟨r2, k1, k2, k3⟩ := r0
    refine ⟨r, ?_, g2, g3⟩
    cases a' with
    | none => exact g1
    | some id =>
      obtain ⟨q, hq, rfl⟩ := g1
      obtain ⟨q0, hq0, _⟩ := k1
      rw [hle.2 _ _ hq0] at hq
      cases hq
      exact ⟨_, hq0, rfl⟩
  · simp only [Bool.and_eq_true] at hb
    rw [beq_nat.1 hb.1.1.1, beq_nat.1 hb.1.1.2, beq_nat.1 hb.1.2, beq_nat.1 hb.2] at r0 ⊢
    obtain ⟨q, g1, g2, g3, g4⟩ := r1
    obtain ⟨q0, k1, _⟩ := r0
    rw [hle.2 _ _ k1] at g1
    cases g1
    exact ⟨_, k1, by rw [hit]; exact g2, by rw [hit]; exact g3, g4⟩
  · exact r1
  · obtain ⟨L, h1, h2⟩ := r1
    cases h1
    exact ⟨[], .nil, h2⟩
  · cases hb

theorem ItemsRel.det {e : Env} {k : List AItem} {K K' : List Item} (h : ItemsRel e k K) (h' : ItemsRel e k K') : K' = K := by
  induction h generalizing K' with
  | nil => cases h'; rfl
  | cons h1 _ ih =>
    rename_i a i l k _
    cases h' with
    | cons g1 g2 =>
      rw [ih g2]
      congr 1
      cases a <;> simp only [ItemRel] at h1 g1
      case endRangeFunc id =>
        obtain ⟨p, hp, rfl⟩ := h1
        obtain ⟨q, hq, rfl⟩ := g1
        rw [hp] at hq; cases hq; rfl
      all_goals rw [h1, g1]

theorem sameTr_spec (r : Nat) : ∀ (t t' : Tr ABlk) (a b : Nat), sameTr r t t' a b = true → ∀ i o, t.get i = some o → a * i + b ≠ r → ∃ o', t'.get i = some o' ∧ beqBlk o o' = true := by
  intro t
  induction t with
  | lf => intro t' a b _ i o ho; rw [Tr.get_lf] at ho; cases ho
  | nd l v x ihl ihx =>
    intro t' a b h i o ho hne
    have go : ∀ (l' : Tr ABlk) (x' : Tr ABlk), (∀ j, t'.get (j + 1) = bif Nat.beq (j % 2) 0 then l'.get (j / 2) else x'.get (j / 2)) → sameTr r l l' (2 * a) (b + a) = true → sameTr r x x' (2 * a) (b + 2 * a) = true →
        ∀ j, (Tr.nd l v x).get (j + 1) = some o → a * (j + 1) + b ≠ r → ∃ o', t'.get (j + 1) = some o' ∧ beqBlk o o' = true := by
      intro l' x' ht hl hx j hj hne
      rw [Tr.get_nd_succ] at hj
      rw [ht]
      cases hp : Nat.beq (j % 2) 0 with
      | true =>
        rw [hp] at hj
        have hm := beq_nat.1 hp
        refine ihl l' _ _ hl (j / 2) o hj (fun hh => hne ?_)
        rw [← hh]
        have : j = 2 * (j / 2) := by omega
        calc a * (j + 1) + b = a * (2 * (j / 2) + 1) + b := by rw [← this]
          _ = 2 * a * (j / 2) + (b + a) := by rw [Nat.mul_add, Nat.mul_one, ← Nat.mul_assoc, Nat.mul_comm a 2]; omega
      | false =>
        rw [hp] at hj
        have hm := beq_nat_false.1 hp
        refine ihx x' _ _ hx (j / 2) o hj (fun hh => hne ?_)
        rw [← hh]
        have : j = 2 * (j / 2) + 1 := by omega
        calc a * (j + 1) + b = a * (2 * (j / 2) + 1 + 1) + b := by rw [← this]
          _ = 2 * a * (j / 2) + (b + 2 * a) := by rw [Nat.mul_add, Nat.mul_add, Nat.mul_one, ← Nat.mul_assoc, Nat.mul_comm a 2]; omega
    cases t' with
    | lf =>
      unfold sameTr at h
      simp only [Bool.and_eq_true] at h
      obtain ⟨⟨h1, h2⟩, h3⟩ := h
      cases i with
      | zero =>
        rw [Tr.get_nd_zero] at ho
        subst ho
        simp only [beq_nat] at h1
        simp [h1] at hne
      | succ j => exact go .lf .lf (fun j => by rw [Tr.get_lf, Tr.get_lf]; cases Nat.beq (j % 2) 0 <;> rfl) h2 h3 j ho hne
    | nd l' v' x' =>
      unfold sameTr at h
      simp only [Bool.and_eq_true] at h
      obtain ⟨⟨h1, h2⟩, h3⟩ := h
      cases i with
      | zero =>
        rw [Tr.get_nd_zero] at ho ⊢
        subst ho
        have hbr : Nat.beq b r = false := beq_nat_false.2 (by simpa using hne)
        cases v' with
        | none => dsimp only at h1; rw [hbr] at h1; cases h1
        | some o' => dsimp only at h1; rw [hbr] at h1; exact ⟨_, rfl, h1⟩
      | succ j => exact go l' x' (fun j => by rw [Tr.get_nd_succ]) h2 h3 j ho hne

theorem sameMem_spec {r : Nat} {m m' : AMem} (h : sameMem r m m' = true) : ∀ i o, m.blks.get i = some o → i ≠ r → ∃ o', m'.blks.get i = some o' ∧ beqBlk o o' = true := by
  obtain ⟨b, n, g⟩ := m
  obtain ⟨b', n', g'⟩ := m'
  intro i o ho hi
  exact sameTr_spec r b b' 1 0 h i o ho (by simpa using hi)

theorem setK_any0 : ∀ (f : Nat) (t t2 : Tr α) (n : Nat) (v v2 : Option α) {γ : Type} (k : Tr α → Option β) (k2 : Tr α → Option γ) (r : β), Tr.setK f t n v k = some r → ∃ t', Tr.setK f t2 n v2 k2 = k2 t' := by
  intro f
  induction f with
  | zero => intro t t2 n v v2 γ k k2 r h; simp [Tr.setK] at h
  | succ f ih =>
    intro t t2 n v v2 γ k k2 r h
    cases n with
    | zero => cases t2 <;> exact ⟨_, rfl⟩
    | succ m =>
      have h1 : ∀ (l x : Tr α) (y : Option α), Tr.setK (f + 1) (.nd l y x) (m + 1) v k = some r → ∀ (l2 x2 : Tr α) (y2 : Option α), ∃ t', Tr.setK (f + 1) (.nd l2 y2 x2) (m + 1) v2 k2 = k2 t' := by
        intro l x y hh l2 x2 y2
        unfold Tr.setK at hh ⊢
        dsimp only at hh ⊢
        cases hp : Nat.beq (m % 2) 0 with
        | true =>
          rw [hp] at hh
          obtain ⟨t', g1⟩ := ih l l2 (m / 2) v v2 _ (fun l' => k2 (.nd l' y2 x2)) r hh
          exact ⟨_, g1⟩
        | false =>
          rw [hp] at hh
          obtain ⟨t', g1⟩ := ih x x2 (m / 2) v v2 _ (fun r' => k2 (.nd l2 y2 r')) r hh
          exact ⟨_, g1⟩
      have e1 : Tr.setK (f + 1) t (m + 1) v k = Tr.setK (f + 1) (match t with | .lf => .nd .lf none .lf | .nd l y x => .nd l y x) (m + 1) v k := by cases t <;> rfl
      have e2 : Tr.setK (f + 1) t2 (m + 1) v2 k2 = Tr.setK (f + 1) (match t2 with | .lf => .nd .lf none .lf | .nd l y x => .nd l y x) (m + 1) v2 k2 := by cases t2 <;> rfl
      rw [e1] at h
      rw [e2]
      cases t <;> cases t2 <;> exact h1 _ _ _ h _ _ _

theorem setK_any {f : Nat} {t : Tr α} {n : Nat} {v : Option α} {k : Tr α → Option β} {r : β} (h : Tr.setK f t n v k = some r) (t2 : Tr α) (v2 : Option α) : ∃ t', Tr.setK f t2 n v2 some = some t' ∧ ∀ i, t'.get i = if i = n then v2 else t2.get i := by
  obtain ⟨t', h1⟩ := setK_any0 f t t2 n v v2 k some r h
  obtain ⟨t1, h2, h3⟩ := Tr.setK_some _ _ _ _ _ _ h1
  cases h2
  exact ⟨_, h1, h3⟩
end Go.Proofs.YtplgnjpeikamhaaGreatDoor.Xec
