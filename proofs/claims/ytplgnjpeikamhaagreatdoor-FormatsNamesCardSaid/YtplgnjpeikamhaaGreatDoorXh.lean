/- The executor's steps are the machine's own, part 7. -/
import Derived.Test.YtplgnjpeikamhaaGreatDoorXg
set_option linter.unusedSectionVars false
set_option linter.unnecessarySimpa false
set_option linter.unusedVariables false
set_option linter.unusedSimpArgs false
namespace Go.Proofs.YtplgnjpeikamhaaGreatDoor.Xec
variable {α β : Type}

/-! ### Rounds over a map's entries: what the executor's own steps say -/
structure Turned (m mm : AMem) (r : Nat) (b : Option ABlk) : Prop where
  next : mm.next = m.next
  grps : mm.grps = m.grps
  get : ∀ i, mm.blks.get i = if i = r then b else m.blks.get i

theorem Rel.swap {T : Tab} {F : Nat → Prop} {e e2 : Env} {mm mm2 : AMem} {w w2 : World} (h : Rel T F e mm w) (hpl : e2.pl = e.pl) {r : Nat} {b1 : ABlk} {b2 : Option ABlk} (h1 : mm.blks.get r = some b1) (hg1 : b1.grp = none)
    (ht : Turned mm mm2 r b2) (hg2 : ∀ b, b2 = some b → b.grp = none) (hr : ∀ b p, b2 = some b → e.pl r = some p → Real T e2 w2.heap p b) (ho : ∀ i b p, i ≠ r → mm.blks.get i = some b → e.pl i = some p → Real T e2 w2.heap p b) (hs : w.heap.size ≤ w2.heap.size) : Rel T F e2 mm2 w2 := by
  have hlt : ∀ i, mm.next ≤ i → i ≠ r := fun i hi hh => by have := (h.fresh i hi).2; rw [hh, h1] at this; cases this
  refine ⟨fun i b p hi hp => ?_, fun i j p q b b' hij hi hj hp hq hpq => ?_, fun i b g hi hg => ?_, fun i hi => ?_, fun i b p hi hp => ?_, fun b hb => Nat.lt_of_lt_of_le (h.size b hb) hs, fun g hg => by rw [hpl]; exact h.glob g hg⟩
  · rw [ht.get] at hi
    rw [hpl] at hp
    by_cases e1 : i = r
    · subst e1
      rw [if_pos rfl] at hi
      exact hr b p hi hp
    · rw [if_neg e1] at hi
      exact ho i b p e1 hi hp
  · rw [hpl] at hp hq
    rw [ht.get] at hi hj
    by_cases e1 : i = r
    · subst e1
      rw [if_neg (Ne.symm hij)] at hj
      obtain ⟨g, k1, _⟩ := h.sep i j p q b1 b' hij h1 hj hp hq hpq
      rw [hg1] at k1; cases k1
    · rw [if_neg e1] at hi
      by_cases e2 : j = r
      · subst e2
        obtain ⟨g, _, k1, _⟩ := h.sep i j p q b b1 hij hi h1 hp hq hpq
        rw [hg1] at k1; cases k1
      · rw [if_neg e2] at hj
        exact h.sep i j p q b b' hij hi hj hp hq hpq
  · rw [ht.get] at hi
    rw [ht.grps]
    by_cases e1 : i = r
    · subst e1
      rw [if_pos rfl] at hi
      rw [hg2 b hi] at hg; cases hg
    · rw [if_neg e1] at hi
      exact h.grp i b g hi hg
  · rw [ht.next] at hi
    rw [hpl, ht.get, if_neg (hlt i hi)]
    exact h.fresh i hi
  · rw [hpl] at hp
    rw [ht.get] at hi
    by_cases e1 : i = r
    · subst e1; exact h.frame i b1 p h1 hp
    · rw [if_neg e1] at hi; exact h.frame i b p hi hp

theorem Rel.alone {T : Tab} {F : Nat → Prop} {e : Env} {mm : AMem} {w : World} (h : Rel T F e mm w) {r : Nat} {b1 : ABlk} (h1 : mm.blks.get r = some b1) (hg1 : b1.grp = none) {q : Plc} (hq : e.pl r = some q) {i : Nat} {b : ABlk} {p : Plc} (hi : i ≠ r) (hb : mm.blks.get i = some b) (hp : e.pl i = some p) : p.blk ≠ q.blk := by
  intro hh
  obtain ⟨g, _, k1, _⟩ := h.sep i r p q b b1 hi hb h1 hp hq hh
  rw [hg1] at k1; cases k1

theorem delK_some {m : AMem} {r : Nat} {k : AMem → Option β} {x : β} (h : delK m r k = some x) : ∃ m', k m' = some x ∧ Turned m m' r none := by
  obtain ⟨b, n, g⟩ := m
  unfold delK at h
  dsimp only at h
  obtain ⟨b', hk, hg⟩ := Tr.setK_some _ _ _ _ _ _ h
  exact ⟨_, hk, rfl, rfl, hg⟩

theorem hasNat_append {n : Nat} (a b : List Nat) : hasNat n (a ++ b) = (hasNat n a || hasNat n b) := by
  rw [Bool.eq_iff_iff]
  simp [hasNat_iff]

theorem leftOf_spec {m : AMem} {r id since last clock : Nat} {seen : List Nat} {left : List AEnt} (hb : m.blks.get r = some (.miter (some id) since seen last)) (h : leftOf m r = some (clock, left)) :
    ∃ es, m.blks.get id = some (.map es clock) ∧ left = es.filter (fun e => !hasNat e.born seen) ∧ left.any (fun e => Nat.ble since e.born) = false := by
  unfold leftOf at h
  rw [AMem.get_blks, hb] at h
  dsimp only at h
  rw [AMem.get_blks] at h
  split at h
  · rename_i es c hm
    cases h1 : (!seen.isEmpty && !es.isEmpty && es.all (fun e => Nat.ble last e.born)) with
    | true => rw [h1] at h; cases h
    | false =>
      rw [h1] at h
      simp only [cond_false] at h
      cases h2 : (es.filter fun e => !hasNat e.born seen).any (fun e => Nat.ble since e.born) with
      | true => rw [h2] at h; cases h
      | false =>
        rw [h2] at h
        simp only [cond_false, Option.some.injEq, Prod.mk.injEq] at h
        obtain ⟨rfl, rfl⟩ := h
        exact ⟨es, hm, rfl, h2⟩
  · cases h

theorem leftOf_later {m mm : AMem} {r id since last clock : Nat} {seen σ : List Nat} {left : List AEnt} (hb : m.blks.get r = some (.miter (some id) since seen last)) (h : leftOf m r = some (clock, left)) {e1 : AEnt} (he : e1 ∈ left) (hc : e1.born < clock) {lst : Nat}
    (hl : (σ = [] ∧ lst = last) ∨ (σ ≠ [] ∧ lst = clock)) (ht : Turned m mm r (some (.miter (some id) since (seen ++ σ) lst))) : leftOf mm r = some (clock, left.filter fun e => !hasNat e.born σ) := by
  obtain ⟨es, g1, g2, g3⟩ := leftOf_spec hb h
  have hne : id ≠ r := fun hh => by rw [hh, hb] at g1; cases g1
  have hfil : (es.filter fun e => !hasNat e.born (seen ++ σ)) = left.filter fun e => !hasNat e.born σ := by
    rw [g2, List.filter_filter]
    refine List.filter_congr (fun a _ => ?_)
    rw [hasNat_append]
    cases hasNat a.born seen <;> cases hasNat a.born σ <;> rfl
  have hcond : (!(seen ++ σ).isEmpty && !es.isEmpty && es.all (fun e => Nat.ble lst e.born)) = false := by
    rcases hl with ⟨rfl, rfl⟩ | ⟨_, rfl⟩
    · rw [List.append_nil]
      unfold leftOf at h
      rw [AMem.get_blks, hb] at h
      dsimp only at h
      rw [AMem.get_blks, g1] at h
      dsimp only at h
      cases h1 : (!seen.isEmpty && !es.isEmpty && es.all (fun e => Nat.ble lst e.born)) with
      | true => rw [h1] at h; cases h
      | false => rfl
    · have : es.all (fun e => Nat.ble lst e.born) = false := by
        rw [List.all_eq_false]
        refine ⟨e1, ?_, ?_⟩
        · rw [g2] at he; exact (List.mem_filter.1 he).1
        · have := ble_nat_false.2 hc; rw [this]; simp
      rw [this, Bool.and_false]
  have hany : (left.filter fun e => !hasNat e.born σ).any (fun e => Nat.ble since e.born) = false := by
    rw [List.any_eq_false] at g3 ⊢
    exact fun x hx => g3 x (List.mem_filter.1 hx).1
  unfold leftOf
  rw [AMem.get_blks, ht.get, if_pos rfl]
  dsimp only
  rw [AMem.get_blks, ht.get, if_neg hne, g1]
  dsimp only
  rw [hcond, hfil]
  simp only [cond_false]
  rw [hany]
  rfl

theorem splitL_spec (n : Nat) : ∀ (l : List ARes) (hs : List (Tr AVal × List ADef × AMode × AMem)) (os : List ARes), splitL n l = (hs, os) →
    ∀ r ∈ l, (∃ tm ds b k, r.out = .atLoop tm ds b k ∧ k.length = n ∧ (tm, ds, r.cm, r.mem) ∈ hs) ∨ (r ∈ os ∧ ∀ tm ds b k, r.out = .atLoop tm ds b k → k.length ≠ n) := by
  intro l
  induction l with
  | nil => intro hs os _ r hr; cases hr
  | cons x l ih =>
    intro hs os h r hr
    have other : (∀ tm ds b k, x.out ≠ .atLoop tm ds b k) → ∀ a b, splitL n l = (a, b) → (a, x :: b) = (hs, os) → (∃ tm ds b k, r.out = .atLoop tm ds b k ∧ k.length = n ∧ (tm, ds, r.cm, r.mem) ∈ hs) ∨ (r ∈ os ∧ ∀ tm ds b k, r.out = .atLoop tm ds b k → k.length ≠ n) := by
      intro hno a b hab heq
      cases heq
      rcases List.mem_cons.1 hr with rfl | hr
      · exact .inr ⟨List.mem_cons_self, fun tm ds b k hh => (hno _ _ _ _ hh).elim⟩
      · rcases ih _ _ hab r hr with hh | ⟨h1, h2⟩
        · exact .inl hh
        · exact .inr ⟨List.mem_cons_of_mem _ h1, h2⟩
    obtain ⟨out, cm, m⟩ := x
    cases hsp : splitL n l with
    | mk a o =>
      cases out with
      | atLoop tm ds b k =>
        unfold splitL at h
        rw [hsp] at h
        dsimp only at h
        cases hk : Nat.beq k.length n with
        | true =>
          rw [hk] at h
          simp only [cond_true] at h
          cases h
          rcases List.mem_cons.1 hr with rfl | hr
          · exact .inl ⟨tm, ds, b, k, rfl, beq_nat.1 hk, List.mem_cons_self⟩
          · rcases ih _ _ hsp r hr with ⟨tm', ds', b', k', h1, h2, h3⟩ | hh
            · exact .inl ⟨tm', ds', b', k', h1, h2, List.mem_cons_of_mem _ h3⟩
            · exact .inr hh
        | false =>
          rw [hk] at h
          simp only [cond_false] at h
          cases h
          rcases List.mem_cons.1 hr with rfl | hr
          · exact .inr ⟨List.mem_cons_self, fun tm' ds' b' k' hh => by cases hh; exact beq_nat_false.1 hk⟩
          · rcases ih _ _ hsp r hr with hh | ⟨h1, h2⟩
            · exact .inl hh
            · exact .inr ⟨List.mem_cons_of_mem _ h1, h2⟩
      | ret v =>
        refine other (fun _ _ _ _ hh => by cases hh) a o hsp ?_
        unfold splitL at h
        rw [hsp] at h
        exact h
      | pan ch =>
        refine other (fun _ _ _ _ hh => by cases hh) a o hsp ?_
        unfold splitL at h
        rw [hsp] at h
        exact h

theorem cleanL_spec {x : RAny} {en : AEnt} : ∀ (l l' : List ARes), cleanL x en l = some l' → ∀ r ∈ l, standsAt x en r.mem = true ∧ ∃ m', Turned r.mem m' x.r none ∧ (⟨r.out, r.cm, m'⟩ : ARes) ∈ l' := by
  intro l
  induction l with
  | nil => intro l' _ r hr; cases hr
  | cons y l ih =>
    intro l' h r hr
    obtain ⟨out, cm, m⟩ := y
    unfold cleanL at h
    cases hs : standsAt x en m with
    | false => rw [hs] at h; cases h
    | true =>
      rw [hs] at h
      simp only [cond_true] at h
      obtain ⟨m', h1, h2⟩ := delK_some h
      split at h1
      · rename_i l1 hl1
        cases h1
        rcases List.mem_cons.1 hr with rfl | hr
        · exact ⟨hs, m', h2, List.mem_cons_self⟩
        · obtain ⟨g1, m2, g2, g3⟩ := ih _ hl1 r hr
          exact ⟨g1, m2, g2, List.mem_cons_of_mem _ g3⟩
      · cases h1

theorem standsAt_spec {x : RAny} {en : AEnt} {m : AMem} (h : standsAt x en m = true) : m.blks.get x.r = some (.cur x.id x.since en.born x.clock) := by
  unfold standsAt at h
  rw [AMem.get_blks] at h
  split at h
  · rename_i a b l c hb
    simp only [Bool.and_eq_true] at h
    rw [hb, beq_nat.1 h.1.1.1, beq_nat.1 h.1.1.2, beq_nat.1 h.1.2, beq_nat.1 h.2]
  · cases h

/-- a round that comes back comes back to where it began -/
def Same (c : Ctx) (tm : Tr AVal) (cm : AMode) (m : AMem) (x : RAny) (en : AEnt) (h : Tr AVal × List ADef × AMode × AMem) : Prop :=
  h.2.1 = [] ∧ sameMode cm h.2.2.1 = true ∧ (∀ t, t < c.nt → sameAt tm h.1 t = true) ∧ sameMem x.r m h.2.2.2 = true ∧ standsAt x en h.2.2.2 = true

def Comes (T : Tab) (run : Run) (c : Ctx) (tm : Tr AVal) (k : List AItem) (cm : AMode) (m : AMem) (b : Code) (x : RAny) (en : AEnt) : Prop :=
  ∃ l hs os, roundOf T run c tm k [] cm m b x en = some l ∧ splitL k.length l = (hs, os) ∧ hs ≠ []

theorem mem_upTo : ∀ (n t : Nat), t ∈ upTo n ↔ t < n
  | 0, t => by simp [upTo]
  | n + 1, t => by simp only [upTo, List.mem_cons, mem_upTo n]; omega

theorem roundsOf_spec {T : Tab} {run : Run} {c : Ctx} {tm : Tr AVal} {k : List AItem} {cm : AMode} {m : AMem} {b : Code} {x : RAny} : ∀ (es : List AEnt) (back : Bool) (os : List ARes), roundsOf T run c (upTo c.nt) tm k cm m b x es = some (back, os) →
    (∀ en ∈ es, ∃ l hs o1 o2, roundOf T run c tm k [] cm m b x en = some l ∧ splitL k.length l = (hs, o1) ∧ (∀ h ∈ hs, Same c tm cm m x en h) ∧ cleanL x en o1 = some o2 ∧ o2 ⊆ os) ∧
    (back = false → ∃ en ∈ es, ¬ Comes T run c tm k cm m b x en) := by
  intro es
  induction es with
  | nil => intro back os h; simp only [roundsOf] at h; cases h; exact ⟨fun en hen => (by cases hen), fun hh => (by cases hh)⟩
  | cons a es ih =>
    intro back os h
    unfold roundsOf at h
    split at h
    · rename_i l hl
      split at h
      rename_i hs o1 hsp
      cases hc : (hs.all fun (tm', ds', cm', m') => ds'.isEmpty && sameMode cm cm' && (upTo c.nt).all (fun t => sameAt tm tm' t) && sameMem x.r m m' && standsAt x a m') with
      | false => rw [hc] at h; cases h
      | true =>
        rw [hc] at h
        simp only [cond_true] at h
        split at h
        · rename_i os1 back' os' hcl hro
          cases h
          obtain ⟨i1, i2⟩ := ih _ _ hro
          refine ⟨fun en hen => ?_, fun hb => ?_⟩
          · rcases List.mem_cons.1 hen with rfl | hen
            · refine ⟨l, hs, o1, os1, hl, hsp, fun h hh => ?_, hcl, List.subset_append_left _ _⟩
              have := List.all_eq_true.1 hc h hh
              obtain ⟨tm', ds', cm', m'⟩ := h
              simp only [Bool.and_eq_true, List.isEmpty_iff, List.all_eq_true] at this
              obtain ⟨⟨⟨⟨h1, h2⟩, h3⟩, h4⟩, h5⟩ := this
              exact ⟨h1, h2, fun t ht => h3 t ((mem_upTo _ _).2 ht), h4, h5⟩
            · obtain ⟨l, hs, o1, o2, g1, g2, g3, g4, g5⟩ := i1 en hen
              exact ⟨l, hs, o1, o2, g1, g2, g3, g4, fun y hy => List.mem_append_right _ (g5 hy)⟩
          · cases hbk : back' with
            | false =>
              obtain ⟨en, h1, h2⟩ := i2 hbk
              exact ⟨en, List.mem_cons_of_mem _ h1, h2⟩
            | true =>
              rw [hbk] at hb
              refine ⟨a, List.mem_cons_self, fun ⟨l2, hs2, os2, k1, k2, k3⟩ => ?_⟩
              rw [hl] at k1
              cases k1
              rw [hsp] at k2
              cases k2
              cases hs with
              | nil => exact k3 rfl
              | cons y ys => simp at hb
        · cases h
    · cases h

theorem junkK_some : ∀ (D : List Tmp) (tm : Tr AVal) (k : Tr AVal → Option β) (r : β), junkK D tm k = some r → ∃ tm', k tm' = some r ∧ ∀ t, tm'.get t = tm.get t ∨ tm'.get t = some .junk
  | [], tm, k, r, h => ⟨tm, h, fun _ => .inl rfl⟩
  | d :: D, tm, k, r, h => by
    unfold junkK at h
    obtain ⟨t1, h1, h2⟩ := Tr.setK_some _ _ _ _ _ _ h
    obtain ⟨tm', h3, h4⟩ := junkK_some D t1 k r h1
    refine ⟨tm', h3, fun t => ?_⟩
    rcases h4 t with h5 | h5
    · rw [h5, h2]
      by_cases e1 : t = d
      · right; simp [e1]
      · left; simp [e1]
    · exact .inr h5

theorem differ_spec : ∀ {l : List AEnt}, differ (l.map (·.born)) = true → ∀ a ∈ l, ∀ b ∈ l, a.born = b.born → a = b
  | [], _, a, ha => by cases ha
  | x :: l, h, a, ha => fun b hb hab => by
    simp only [List.map_cons, differ, Bool.and_eq_true, Bool.not_eq_true'] at h
    have hno : ∀ y ∈ l, y.born ≠ x.born := fun y hy hh => by
      have : hasNat x.born (l.map (·.born)) = true := hasNat_iff.2 (by rw [← hh]; exact List.mem_map_of_mem hy)
      rw [h.1] at this; cases this
    rcases List.mem_cons.1 ha with h1 | h1
    · rcases List.mem_cons.1 hb with h2 | h2
      · rw [h1, h2]
      · exact (hno b h2 (by rw [← hab, h1])).elim
    · rcases List.mem_cons.1 hb with h2 | h2
      · exact (hno a h1 (by rw [hab, h2])).elim
      · exact differ_spec h.2 a h1 b h2 hab

theorem rangeAny_spec {T : Tab} {tm : Tr AVal} {m : AMem} {b : Code} {x : RAny} (h : rangeAny T tm m b = some x) :
    ∃ rid ops ty pos after os last e1, b = .seq (.region rid ops false) x.rest ∧ x.ops = ops.toList ∧ ops.toList = ⟨some x.d, .next x.it false, ty, pos, after, none⟩ :: os ∧
      m.blks.get x.r = some (.miter (some x.id) x.since x.seen last) ∧ leftOf m x.r = some (x.clock, x.left) ∧ e1 ∈ x.left ∧ e1.born < x.clock ∧ differ (x.left.map (·.born)) = true := by
  unfold rangeAny at h
  split at h
  · rename_i rid ops rest
    split at h
    · rename_i d xo ty pos after os hops
      split at h
      · rename_i r hr
        split at h
        · rename_i id since seen last hb
          split at h
          · rename_i clock e1 e2 l hl
            cases hc : (Nat.blt e1.born clock && differ ((e1 :: e2 :: l).map (·.born))) with
            | false => rw [hc] at h; cases h
            | true =>
              rw [hc] at h
              simp only [cond_true] at h
              cases h
              simp only [Bool.and_eq_true] at hc
              rw [AMem.get_blks] at hb
              exact ⟨rid, ops, ty, pos, after, os, last, e1, rfl, rfl, hops, hb, hl, List.mem_cons_self, blt_nat.1 hc.1, hc.2⟩
          · cases h
        · cases h
      · cases h
    · cases h
  · cases h
end Go.Proofs.YtplgnjpeikamhaaGreatDoor.Xec

namespace Go.Proofs.YtplgnjpeikamhaaGreatDoor.Xec
variable {α β : Type}

theorem setBlkK_any {m : AMem} {id : Nat} {o : ABlk} {k : AMem → Option β} {r : β} (h : setBlkK m id o k = some r) (mm : AMem) (o2 : ABlk) : ∃ mm', setBlkK mm id o2 some = some mm' ∧ Turned mm mm' id (some o2) := by
  obtain ⟨b, n, g⟩ := m
  obtain ⟨b2, n2, g2⟩ := mm
  unfold setBlkK at h
  dsimp only at h
  obtain ⟨t', h1⟩ := setK_any0 40 b b2 id (some o) (some o2) _ (fun b' => some (⟨b', n2, g2⟩ : AMem)) r h
  have h2 : setBlkK ⟨b2, n2, g2⟩ id o2 some = some ⟨t', n2, g2⟩ := h1
  obtain ⟨m', k1, k2, k3, k4⟩ := setBlkK_some h2
  cases k1
  exact ⟨_, h2, k2, k3, k4⟩

theorem CsRel.same {e e' : Env} {c : Ctx} {cm cm' : AMode} {cs : List Frame} (hs : sameMode cm cm' = true) (h : CsRel e' c cm' cs) : CsRel e c cm cs := by
  intro hd
  obtain ⟨caller, rest, h1, h2⟩ := h hd
  refine ⟨caller, rest, h1, ?_⟩
  unfold sameMode at hs
  split at hs
  · exact h2
  · exact h2
  · obtain ⟨C, h3, h4⟩ := h2
    cases h3
    exact ⟨[], .nil, h4⟩
  · cases hs

theorem FrB.back {e e' : Env} {c : Ctx} {tm tm2 : Tr AVal} {fr fr' : Frame} (hle : e.le e') (h : FrB e c tm [] .run fr) (h' : FrB e' c tm2 [] .run fr') (hs : ∀ t, t < c.nt → sameAt tm tm2 t = true) : FrB e c tm [] .run fr' := by
  refine ⟨h'.fn, ⟨h'.tmps.1, fun i => ?_⟩, ?_, h'.mode, h'.kind, ?_⟩
  · have h1 := h.tmps.2 i
    have h2 := h'.tmps.2 i
    rcases Nat.lt_or_ge i c.nt with hi | hi
    · have hs := hs i hi
      unfold sameAt at hs
      split at hs
      · rename_i hj
        rw [hj]
        simp only [Option.getD_some, VRel]
      · rename_i a b ha hb
        have := beqV_eq _ _ _ hs
        subst this
        rw [ha] at h1 ⊢
        rw [hb] at h2
        exact VRel.back hle _ _ _ h1 h2
      · rename_i ha hb
        rw [ha] at h1 ⊢
        rw [hb] at h2
        exact VRel.back hle _ _ _ h1 h2
      · cases hs
    · have e1 : fr.tmps.getD i undef = undef := by rw [Array.getD_eq_getD_getElem?, Array.getElem?_eq_none (by rw [h.tmps.1]; exact hi)]; rfl
      have e2 : fr'.tmps.getD i undef = undef := by rw [Array.getD_eq_getD_getElem?, Array.getElem?_eq_none (by rw [h'.tmps.1]; exact hi)]; rfl
      rw [e2]
      rw [e1] at h1
      exact h1
  · have hd := h'.defers
    generalize fr'.defers = l at hd
    cases hd
    exact .nil
  · have h1 := h.rnd
    have h2 := h'.rnd
    cases hr : c.rnd with
    | none => rw [hr] at h2; exact h2
    | some id =>
      rw [hr] at h1 h2
      obtain ⟨p, hp, _⟩ := h1
      obtain ⟨p', hp', hq⟩ := h2
      rw [hle.2 _ _ hp] at hp'
      cases hp'
      exact ⟨p, hp, hq⟩

theorem filter_less {l : List AEnt} {σ : List Nat} {en : AEnt} (h : en ∈ l.filter fun e => !hasNat e.born σ) {n : Nat} (hn : (l.filter fun e => !hasNat e.born σ).length < n + 1) : (l.filter fun e => !hasNat e.born (σ ++ [en.born])).length < n := by
  have h1 : (l.filter fun e => !hasNat e.born (σ ++ [en.born])) = (l.filter fun e => !hasNat e.born σ).filter fun e => !hasNat e.born [en.born] := by
    rw [List.filter_filter]
    refine List.filter_congr (fun a _ => ?_)
    rw [hasNat_append]
    cases hasNat a.born σ <;> cases hasNat a.born [en.born] <;> rfl
  rw [h1]
  have h2 : ((l.filter fun e => !hasNat e.born σ).filter fun e => !hasNat e.born [en.born]).length < (l.filter fun e => !hasNat e.born σ).length := by
    rw [List.length_filter_lt_length_iff_exists]
    refine ⟨en, h, ?_⟩
    have : hasNat en.born [en.born] = true := hasNat_iff.2 (by simp)
    rw [this]
    simp
  omega

section
variable {P : Program} {T : Tab} (hT : TabOk P T) {F : Nat → Prop} {run : Run} (hS : Sound P T F run)
include hT hS

theorem loopAny_ok {c : Ctx} {tm0 tm : Tr AVal} {k : List AItem} {cm : AMode} {m : AMem} {b : Code} {x : RAny} {L : List ARes} (hx : rangeAny T tm0 m b = some x) (h : loopAny T run c (upTo c.nt) tm k cm m b x = some L)
    {e : Env} {w : World} {fr : Frame} {cs : List Frame} {K : List Item} {todo : List AItem} (hR : Rel T F e m w) (hf : FrB e c tm [] .run fr) (hc : CsRel e c cm cs) (ht : fr.todo = .code b :: .inLoop b :: K) (hk : ItemsRel e k K)
    (hst : ∀ b' q, (.stopLoop b' :: q) <:+ k → (.stopLoop b' :: q) <:+ todo) : Ends P T F c todo cs fr w e m L := by
  obtain ⟨rid, ops, ty, pos, after, os, last, e1, rfl, hops, hol, hb, hl, he1, hcl, hdf⟩ := rangeAny_spec hx
  unfold loopAny at h
  cases hsi : sameIt T tm x with
  | false => rw [hsi] at h; cases h
  | true =>
  rw [hsi] at h
  simp only [cond_true] at h
  have hit : evalO T.ng tm x.it = some (.ptr x.r 0) := by
    unfold sameIt at hsi
    split at hsi
    · rename_i r hr; rw [hr, beq_nat.1 hsi]
    · cases hsi
  obtain ⟨q, hq⟩ : ∃ q, e.pl x.r = some q := by
    have := evalO_ok hR hf.tmps x.it _ hit
    simp only [VRel] at this
    obtain ⟨q, hq, _⟩ := this
    exact ⟨q, hq⟩
  have hbase : q.base = 0 := by obtain ⟨_, _, _, h3⟩ := hR.real _ _ _ hb hq; exact h3
  obtain ⟨back, os0, hro, hsub, hfin⟩ : ∃ back os0, roundsOf T run c (upTo c.nt) tm k cm m (.seq (.region rid ops false) x.rest) x x.left = some (back, os0) ∧ os0 ⊆ L ∧
      (back = true → ∃ lf, lf ⊆ L ∧ (delK m x.r fun m' => putK c.nt tm (some x.d) (.tup [.bool false]) fun tm' => runOps T run c x.ops (x.ops.drop 1) tm' [] cm m' (fun tm' ds' cm' m' => run c tm' (.code x.rest :: .inLoop (.seq (.region rid ops false) x.rest) :: k) ds' .run cm' m') (fun ch tm' ds' cm' m' => run c tm' [] ds' (.pan ch) cm' m')) = some lf) := by
    split at h
    · rename_i os0 hro
      cases h
      exact ⟨false, _, hro, fun _ h => h, fun hh => by cases hh⟩
    · rename_i os0 hro
      split at h
      · rename_i lf hlf
        cases h
        exact ⟨true, os0, hro, List.subset_append_left _ _, fun _ => ⟨lf, List.subset_append_right _ _, hlf⟩⟩
      · cases h
    · cases h
  obtain ⟨hrounds, hback⟩ := roundsOf_spec _ _ _ hro
  have hsz : ops.size = os.length + 1 := by have := congrArg List.length hol; simpa using this
  have hrg : List.range ops.size = 0 :: List.range' 1 os.length := by rw [hsz, List.range_eq_range', List.range'_succ]
  have ho : ops[0]? = some ⟨some x.d, .next x.it false, ty, pos, after, none⟩ := by have := congrArg (fun l => l[0]?) hol; simpa using this
  have hdl : (ops.toList.drop 1).length = os.length := by rw [hol]; rfl
  obtain ⟨bd, hbd⟩ : ∃ bd, bd = Code.seq (.region rid ops false) x.rest := ⟨_, rfl⟩
  rw [← hbd] at hfin hrounds hback ht
  -- the loop's head
  have head : ∀ (n : Nat) (σ : List Nat) (w : World) (fr : Frame) (cs : List Frame) (mm : AMem) (lst : Nat), (x.left.filter fun e => !hasNat e.born σ).length < n → (∀ en ∈ x.left, hasNat en.born σ = true → Comes T run c tm k cm m bd x en) →
      Turned m mm x.r (some (.miter (some x.id) x.since (x.seen ++ σ) lst)) → ((σ = [] ∧ lst = last) ∨ (σ ≠ [] ∧ lst = x.clock)) → Rel T F e mm w → FrB e c tm [] .run fr → CsRel e c cm cs → fr.todo = .code bd :: .inLoop bd :: K → Ends P T F c todo cs fr w e m L := by
    intro n
    induction n with
    | zero => intro σ w fr cs mm lst hn; exact (Nat.not_lt_zero _ hn).elim
    | succ n ih =>
      intro σ w fr cs mm lst hn hcomes hturn hlst hR hf hc ht
      have hmode : fr.mode = .run := hf.mode
      have hsteps : Steps P (lone fr cs w) (lone { fr with todo := .inRegion ops (0 :: List.range' 1 os.length) :: .code x.rest :: .inLoop bd :: K } cs w) := by
        refine (Steps.one (step_lone_go (g_seq hmode (ht.trans (congrArg (fun b => Item.code b :: Item.inLoop bd :: K) hbd))))).trans ?_
        rw [← hrg]
        exact .one (step_lone_go (g_region hmode rfl))
      have hf2 : FrB e c tm [] .run { fr with todo := .inRegion ops (0 :: List.range' 1 os.length) :: .code x.rest :: .inLoop bd :: K } := hf.todo _
      generalize hfr2 : ({ fr with todo := .inRegion ops (0 :: List.range' 1 os.length) :: .code x.rest :: .inLoop bd :: K } : Frame) = fr2 at hsteps hf2
      have hto : fr2.todo = .inRegion ops (0 :: List.range' 1 os.length) :: .code x.rest :: .inLoop bd :: K := by rw [← hfr2]
      have hgo := g_op (P := P) (cs := cs) (w := w) hf2.mode hto ho rfl (.inr (fun _ hh => by cases hh))
      have hev : fr2.eval x.it = .pointer (some ⟨q.blk, 0, none⟩) := by
        have := evalO_ok hR hf2.tmps x.it _ hit
        simp only [VRel] at this
        obtain ⟨q', hq', hv⟩ := this
        rw [hq] at hq'
        cases hq'
        rw [hv, hbase]
      have hleft := leftOf_later hb hl he1 hcl hlst hturn
      have hmb : mm.blks.get x.r = some (.miter (some x.id) x.since (x.seen ++ σ) lst) := by rw [hturn.get, if_pos rfl]
      rcases anextMap_ok (P := P) hR hmb hleft hq ty with ⟨hnil, w', g1, g2, g3⟩ | ⟨en, hen, KV, VV, g1, g2, g3⟩
      · -- nothing is left
        have hbk : back = true := by
          cases hb' : back with
          | true => rfl
          | false =>
            obtain ⟨en, h1, h2⟩ := hback hb'
            refine (h2 (hcomes en h1 ?_)).elim
            cases hh : hasNat en.born σ with
            | true => rfl
            | false =>
              have : en ∈ x.left.filter fun e => !hasNat e.born σ := List.mem_filter.2 ⟨h1, by rw [hh]; rfl⟩
              rw [hnil] at this
              cases this
        obtain ⟨lf, hlf, hd⟩ := hfin hbk
        obtain ⟨m1, k1, k2⟩ := delK_some hd
        have ht1 : Turned mm m1 x.r none := ⟨k2.next.trans hturn.next.symm, k2.grps.trans hturn.grps.symm, fun i => by
          rw [k2.get]
          by_cases e1 : i = x.r
          · simp [e1]
          · rw [if_neg e1, if_neg e1, hturn.get, if_neg e1]⟩
        have hR1 : Rel T F e m1 w' := g2.swap rfl hmb rfl ht1 (fun _ hh => by cases hh) (fun _ _ hh => by cases hh) (fun i b p _ hb hp => g2.real i b p hb hp) (Nat.le_refl _)
        have hrun : (execOp fr2.eval ⟨some x.d, .next x.it false, ty, pos, after, none⟩).run P w = .ok (.value (.tuple #[.bool false])) w' := by
          show (do Pure.pure (Next.value (← Instr.next (fr2.eval x.it) false ty)) : Sem Next).run P w = _
          rw [hev]; simp [g1]
        obtain ⟨tm', j1, j2, j3⟩ := finish_b (o := ⟨some x.d, .next x.it false, ty, pos, after, none⟩) (ds' := []) (D' := fr2.defers) hf2 (VRel.rtup (VRels.mk_cons (VRel.rbool ..) (VRels.mk_nil e))) hf2.defers hto ho k1
        rw [hops] at j1
        have hend := runOps_ok hT hS (K := .code x.rest :: .inLoop bd :: K) (ops.toList.drop 1) 1 tm' [] cm m1 lf rfl j1 e w' _ cs hR1 j2 hc (by rw [j3, hdl])
        have hk' : ItemsRel e (.code x.rest :: .inLoop bd :: k) (.code x.rest :: .inLoop bd :: K) := .cons rfl (.cons rfl hk)
        exact (RegEnd.ends hS (todo := todo) hk' hR1 (fun b' q' hh => hst b' q' (stop_cons (by simp) (stop_cons (by simp) hh))) hend).after (hsteps.trans (.one (step_lone_go (hgo.trans (g_apply_value hrun))))) (Ext.refl m e) (Nat.le_of_eq k2.next.symm) g3 (CsAfter.refl hc) (fun _ _ h => h) hlf
      · -- a round
        have henL := (List.mem_filter.1 hen).1
        obtain ⟨l, hs, o1, o2, r1, r2, r3, r4, r5⟩ := hrounds en henL
        have hr1 := r1
        unfold roundOf at hr1
        obtain ⟨mm', v1, v2⟩ := setBlkK_any hr1 mm (.miter (some x.id) x.since ((x.seen ++ σ) ++ [en.born]) x.clock)
        obtain ⟨mc, u1, u2, u3, u4⟩ := setBlkK_some hr1
        obtain ⟨m', w1, j1, j2, j3, j4, j5⟩ := g3 some mm' (by rw [appK_eq]; exact v1)
        cases j1
        have hmb' : mm'.blks.get x.r = some (.miter (some x.id) x.since ((x.seen ++ σ) ++ [en.born]) x.clock) := by rw [v2.get, if_pos rfl]
        have hmm' : ∀ i, i ≠ x.r → mm'.blks.get i = m.blks.get i := fun i hi => by rw [v2.get, if_neg hi, hturn.get, if_neg hi]
        obtain ⟨er, her⟩ : ∃ er : Env, er = ⟨e.pl, e.sy, fun j => if j = q.blk then (x.seen ++ σ) ++ [en.born] else e.it j⟩ := ⟨_, rfl⟩
        have hpl : er.pl = e.pl := by rw [her]
        have hsy : er.sy = e.sy := by rw [her]
        have hitq : er.it q.blk = (x.seen ++ σ) ++ [en.born] := by rw [her]; simp
        have hito : ∀ j, j ≠ q.blk → er.it j = e.it j := fun j hj => by rw [her]; simp [hj]
        have hler : e.le er := ⟨hsy.symm, fun i p hp => by rw [hpl]; exact hp⟩
        have htc : Turned mm' mc x.r (some (.cur x.id x.since en.born x.clock)) := ⟨by rw [u2, v2.next, hturn.next], by rw [u3, v2.grps, hturn.grps], fun i => by
          rw [u4]
          by_cases e1 : i = x.r
          · simp [e1]
          · rw [if_neg e1, if_neg e1, hmm' i e1]⟩
        obtain ⟨_, ⟨qm, hqm, rfl⟩, hiter, _⟩ := j4.real _ _ _ hmb' hq
        have hRr : Rel T F er mc w1 := j4.swap hpl hmb' rfl htc (fun b hh => by cases hh; rfl) (fun b p hh hp => by
            cases hh
            rw [hq] at hp
            cases hp
            exact ⟨qm, by rw [hpl]; exact hqm, by rw [hitq]; exact hiter, by rw [hitq]; simp, hbase⟩)
          (fun i b p hi hb hp => (j4.real i b p hb hp).mono hler (hito _ (j4.alone hmb' rfl hq hi hb hp)).symm rfl) (Nat.le_refl _)
        have hrun : (execOp fr2.eval ⟨some x.d, .next x.it false, ty, pos, after, none⟩).run P w = .ok (.value (.tuple #[.bool true, KV, VV])) w1 := by
          show (do Pure.pure (Next.value (← Instr.next (fr2.eval x.it) false ty)) : Sem Next).run P w = _
          rw [hev]; simp [j3]
        obtain ⟨tm', y1, y2, y3⟩ := finish_b (o := ⟨some x.d, .next x.it false, ty, pos, after, none⟩) (ds' := []) (D' := fr2.defers) (hf2.mono hler) (VRel.rtup (VRels.mk_cons (VRel.rbool ..) (VRels.two (g1.mono hler) (g2.mono hler)))) (hf2.defers.mono hler) hto ho u1
        rw [hops] at y1
        have hend := runOps_ok hT hS (K := .code x.rest :: .inLoop bd :: K) (ops.toList.drop 1) 1 tm' [] cm mc l rfl y1 er w1 _ cs hRr y2 (hc.mono hler) (by rw [y3, hdl])
        have hkr := hk.mono hler
        have hk' : ItemsRel er (.code x.rest :: .stopLoop bd :: k) (.code x.rest :: .inLoop bd :: K) := .cons rfl (.cons rfl hkr)
        obtain ⟨r, hr, e', w', fr', cs', s1, s2, s3, s4, s5, s6⟩ := RegEnd.ends hS (todo := .stopLoop bd :: k) hk' hRr (fun b' q' hh => stop_cons (by simp) hh) hend
        have hsteps' := (hsteps.trans (.one (step_lone_go (hgo.trans (g_apply_value hrun))))).trans s1
        have hle' : e.le e' := Env.le_trans hler (hRr.le s2)
        have hq' : e'.pl x.r = some q := hle'.2 _ _ hq
        have hmn : mc.next = m.next := u2
        rcases splitL_spec _ _ _ _ r2 r hr with ⟨tm2, ds2, b2, k2, h1, h2, h3⟩ | ⟨h1, h2⟩
        · -- it comes back
          obtain ⟨q1, q2, q3, q4, q5⟩ := r3 _ h3
          dsimp only at q1 q2 q3 q4 q5
          subst q1
          unfold Leaves at s6
          rw [h1] at s6
          obtain ⟨l1, l2, l3, l4⟩ := s6
          have heq := l3.eq_of_length (by simp [h2])
          cases heq
          have hti := l4.todo rfl
          obtain ⟨K2, hK2, hK3⟩ : ∃ K2, fr'.todo = .inLoop bd :: K2 ∧ ItemsRel e' k K2 := by
            generalize fr'.todo = td at hti
            cases hti with
            | cons g1 g2 => simp only [ItemRel] at g1; subst g1; exact ⟨_, rfl, g2⟩
          have hKK : K2 = K := ItemsRel.det (hk.mono hle') hK3
          subst hKK
          have hfb : FrB e c tm [] .run fr' := hf.back hle' l4.b q3
          have hR2 : Rel T F e mm' w' := j4.swap rfl hmb' rfl (⟨rfl, rfl, fun i => by
              by_cases e1 : i = x.r
              · rw [if_pos e1, e1]; exact hmb'
              · rw [if_neg e1]⟩ : Turned mm' mm' x.r (some (.miter (some x.id) x.since ((x.seen ++ σ) ++ [en.born]) x.clock))) (fun b hh => by cases hh; rfl)
            (fun b p hh hp => by
              cases hh
              rw [hq] at hp
              cases hp
              obtain ⟨q0, z1, z2, z3, z4⟩ := l1.real _ _ _ (standsAt_spec q5) hq'
              rw [hle'.2 _ _ hqm] at z1
              cases z1
              rw [← s2.it, hitq] at z2
              exact ⟨_, ⟨qm, hqm, rfl⟩, z2, hbase⟩)
            (fun i b p hi hb hp => by
              have hmi := hmm' i hi
              rw [hb] at hmi
              obtain ⟨o', z1, z2⟩ := sameMem_spec q4 i b hmi.symm hi
              have hne := j4.alone hmb' rfl hq hi hb hp
              exact Real.back hle' (by rw [← s2.it, hito _ hne]) z2 (j4.real i b p hb hp) (l1.real i o' p z1 (hle'.2 _ _ hp))) l2.grow
          have hnext := ih (σ ++ [en.born]) w' { fr' with todo := .code bd :: .inLoop bd :: K2 } cs' mm' x.clock (filter_less hen hn) (fun en' hen' hb' => by
              rw [hasNat_append, Bool.or_eq_true] at hb'
              rcases hb' with hb' | hb'
              · exact hcomes en' hen' hb'
              · have hbe : en'.born = en.born := by simpa using hasNat_iff.1 hb'
                have := differ_spec hdf en' hen' en henL hbe
                subst this
                exact ⟨l, hs, o1, r1, r2, fun hh => by rw [hh] at h3; cases h3⟩)
            ⟨v2.next.trans hturn.next, v2.grps.trans hturn.grps, fun i => by
              rw [v2.get]
              by_cases e1 : i = x.r
              · simp [e1]
              · rw [if_neg e1, if_neg e1, hturn.get, if_neg e1]⟩ (.inr ⟨by simp, rfl⟩) hR2 (hfb.todo _) (s5.same q2) rfl
          exact hnext.after (hsteps'.trans (.one (step_lone_go (g_inLoop l4.b.mode hK2)))) (Ext.refl m e) (Nat.le_refl _) (j5.trans l2) s4 (fun _ _ h => h) (fun _ h => h)
        · -- it leaves
          obtain ⟨z1, m', z2, z3⟩ := cleanL_spec _ _ r4 r h1
          have hcur := standsAt_spec z1
          obtain ⟨e2, he2⟩ : ∃ e2 : Env, e2 = ⟨e'.pl, e'.sy, e.it⟩ := ⟨_, rfl⟩
          have hpl2 : e2.pl = e'.pl := by rw [he2]
          have hsy2 : e2.sy = e'.sy := by rw [he2]
          have hit2 : e2.it = e.it := by rw [he2]
          have hle2 : e'.le e2 := ⟨hsy2.symm, fun i p hp => by rw [hpl2]; exact hp⟩
          have clean : ∀ wx, Rel T F e' r.mem wx → Rel T F e2 m' wx := fun wx hx => hx.swap hpl2 hcur rfl z2 (fun _ hh => by cases hh) (fun _ _ hh => by cases hh) (fun i b p hi hb hp => by
            have hne := hx.alone hcur rfl hq' hi hb hp
            exact (hx.real i b p hb hp).mono hle2 (by rw [← s2.it, hito _ hne, hit2]) rfl) (Nat.le_refl _)
          refine ⟨_, hsub (r5 z3), e2, w', fr', cs', hsteps', ⟨?_, hit2.symm, fun i hi => ?_⟩, ?_, s4, s5.mono hle2, Leaves.keep (todo' := todo) j5 (fun _ _ h => h) ?_⟩
          · rw [hsy2, ← s2.sy, hsy]
          · rw [hpl2, s2.pl i (by omega), hpl]
          · have := z2.next
            dsimp only
            omega
          · obtain ⟨out, cm', mem⟩ := r
            cases out with
            | ret v =>
              obtain ⟨V, w2, p1, p2, p3, p4⟩ := s6
              exact ⟨V, w2, p1.mono hle2, clean w2 p2, p3, p4⟩
            | pan ch =>
              obtain ⟨p1, p2, p3, p4, ⟨C, p5, p6⟩, p7⟩ := s6
              exact ⟨clean w' p1, p2, p3, p4, ⟨C, p5.mono hle2, p6⟩, p7⟩
            | atLoop tm2 ds2 b2 k2 =>
              obtain ⟨p1, p2, p3, p4⟩ := s6
              refine ⟨clean w' p1, p2, hst _ _ ?_, ⟨p4.b.mono hle2, fun hh => (p4.todo hh).mono hle2⟩⟩
              rcases List.suffix_cons_iff.1 p3 with p5 | p5
              · cases p5; exact (h2 _ _ _ _ rfl rfl).elim
              · exact p5
  exact head _ [] w fr cs m last (Nat.lt_succ_self _) (fun en _ hh => by cases hh) ⟨rfl, rfl, fun i => by
    by_cases e1 : i = x.r
    · rw [if_pos e1, e1, List.append_nil]; exact hb
    · rw [if_neg e1]⟩ (.inl ⟨rfl, rfl⟩) hR hf hc ht

theorem loopOk : LoopOk P T F run := by
  intro c tm k ds cm m b L h e w fr cs K todo hR hf hc ht hk hst
  have plain : run c tm (.code b :: .inLoop b :: k) ds .run cm m = some L → Ends P T F c todo cs fr w e m L := fun h =>
    (hS _ _ _ _ _ _ _ _ h e w fr cs hR ⟨hf, fun _ => by rw [ht]; exact .cons rfl (.cons rfl hk)⟩ hc).after (.refl _ _) (Ext.refl m e) (Nat.le_refl _) (Keep.refl F w) (CsAfter.refl hc) (fun b' q hh => hst b' q (stop_cons (by simp) (stop_cons (by simp) hh))) (fun _ h => h)
  unfold loopK at h
  split at h
  · rename_i x hx
    dsimp only at h
    split at h
    · rename_i l hl
      cases h
      obtain ⟨tm', h1, h2⟩ := junkK_some _ _ _ _ hl
      refine loopAny_ok hT hS hx h1 hR ⟨hf.fn, ⟨hf.tmps.1, fun i => ?_⟩, hf.defers, hf.mode, hf.kind, hf.rnd⟩ hc ht hk hst
      rcases h2 i with h3 | h3
      · rw [h3]; exact hf.tmps.2 i
      · rw [h3]; simp only [Option.getD_some, VRel]
    · exact plain h
  · exact plain h
end
end Go.Proofs.YtplgnjpeikamhaaGreatDoor.Xec

namespace Go.Proofs.YtplgnjpeikamhaaGreatDoor.Xec
variable {α β : Type}

section
variable {P : Program} {T : Tab} (hT : TabOk P T)
include hT

theorem runN_ok (F : Nat → Prop) : ∀ n, Sound P T F (runN T n)
  | 0 => fun _ _ _ _ _ _ _ _ h => by cases h
  | n + 1 => by
    have ih := runN_ok F n
    exact body_ok (run := wrapRun (runN T n)) hT ih (planOk hT ih) (loopOk hT ih)

/-- **What the executor says of a call is so.** -/
theorem calls_ok {n f : Nat} {args : List AVal} {cm : AMode} {m : AMem} {L : List ARes} (h : enter T (runN T n) f args false cm m = some L) {F : Nat → Prop} {e : Env} {w : World} {Args : Array Value} (hR : Rel T F e m w) (hv : VRels e args Args.toList) :
    Calls P f Args w fun en w' => ∃ r ∈ L, ∃ e', Ext m e e' ∧ Keep F w w' ∧ Rel T F e' r.mem w' ∧ match r.out with
      | .ret v => ∃ V, en = .returned V ∧ VRel e' v V
      | .pan ch => ∃ C, en = .panicked C ∧ ChainRel e' ch C
      | .atLoop .. => False := by
  intro cs
  obtain ⟨nt, c, r, hr, e', w', fr, cs', h1, h2, h3, h4, h5, h6⟩ := enter_ok hT (runN_ok hT F n) hR hv h (cs := cs) (fun hh => by cases hh)
  obtain rfl := h4.1 rfl
  obtain ⟨out, cm', mem⟩ := r
  cases out with
  | ret v =>
    obtain ⟨V, w2, g1, g2, g3, g4, g5, g6⟩ := h6
    obtain ⟨rfl, k1, k2, k3, fn, k4, k5⟩ := g6 rfl
    exact ⟨.returned V, _, fr, ⟨_, hr, e', h2, g3, g2, V, rfl, g1⟩, h1, k1, k2, k3, g4, fn, k4, k5⟩
  | pan ch =>
    obtain ⟨g1, g2, g3, g4, ⟨C, g5, g6⟩, fn, g7⟩ := h6
    exact ⟨.panicked C, w', fr, ⟨_, hr, e', h2, g2, g1, C, rfl, g5⟩, h1, g3, g6, g4, fn, g7⟩
  | atLoop tm ds b k =>
    obtain ⟨_, _, g3, _⟩ := h6
    rcases List.suffix_cons_iff.1 g3 with g | g
    · cases g
    · simp at g
end

/-! ### The tables of a program -/
def evens : List α → List α
  | [] => []
  | [x] => [x]
  | x :: _ :: r => x :: evens r

def Tr.ofList : Nat → List α → Tr α
  | 0, _ => .lf
  | _ + 1, [] => .lf
  | f + 1, x :: r => .nd (Tr.ofList f (evens r)) (some x) (Tr.ofList f (evens (r.drop 1)))

theorem evens_get : ∀ (l : List α) (i : Nat), (evens l)[i]? = l[2 * i]?
  | [], i => by simp [evens]
  | [x], i => by cases i <;> simp [evens]
  | x :: y :: r, i => by
    cases i with
    | zero => simp [evens]
    | succ i => simp only [evens, List.getElem?_cons_succ, evens_get r i, Nat.mul_add]

theorem ofList_get : ∀ (f : Nat) (l : List α) (i : Nat) (x : α), (Tr.ofList f l).get i = some x → l[i]? = some x := by
  intro f
  induction f with
  | zero => intro l i x h; simp only [Tr.ofList, Tr.get_lf] at h; cases h
  | succ f ih =>
    intro l i x h
    cases l with
    | nil => simp only [Tr.ofList, Tr.get_lf] at h; cases h
    | cons a r =>
      simp only [Tr.ofList] at h
      cases i with
      | zero => rw [Tr.get_nd_zero] at h; simpa using h
      | succ j =>
        rw [Tr.get_nd_succ] at h
        cases hp : Nat.beq (j % 2) 0 with
        | true =>
          rw [hp] at h
          have := ih _ _ _ h
          rw [evens_get] at this
          have hm := beq_nat.1 hp
          have e1 : 2 * (j / 2) = j := by omega
          rw [e1] at this
          simpa using this
        | false =>
          rw [hp] at h
          have := ih _ _ _ h
          rw [evens_get, List.getElem?_drop] at this
          have hm := beq_nat_false.1 hp
          have e1 : 1 + 2 * (j / 2) = j := by omega
          rw [e1] at this
          simpa using this
end Go.Proofs.YtplgnjpeikamhaaGreatDoor.Xec

namespace Go.Proofs.YtplgnjpeikamhaaGreatDoor.Xec
variable {α β : Type}

/-- the table of a program -/
def mkTab (P : Program) (FT : Tr Func) (TT : Tr TypeInfo) (i1 i2 : Nat) (kn : Nat → Bool) (ng : Nat) : Tab :=
  { fn := fun f => FT.get f, ti := fun t => TT.get t, ps := fun t => !(P.eqGuardType P.depth t) && !(P.stoodInHeld t),
    lies := fun e n off u => liesAt P P.depth e (n / P.cellsOf e) off u 1,
    ext := fun f => bif Nat.beq f i1 then some 1 else bif Nat.beq f i2 then some 2 else none, kn := kn, ng := ng }

/-- a function without a Go body that the model knows -/
structure ExtFn (P : Program) (f : Nat) (g : Array Value → Sem Value) : Prop where
  ex : ∃ x, P.funcs[f]? = some x ∧ x.body.isNone = true ∧ (x.name == "runtime.NumGoroutine") = false ∧ Extern.findNext x = none ∧ Extern.find x = some g

theorem ExtFn.run {P : Program} {f : Nat} {g : Array Value → Sem Value} (h : ExtFn P f g) (args : Array Value) (w : World) : (callFunc f args).run P w = (do let v ← g args; Pure.pure (Next.value v) : Sem Next).run P w := by
  obtain ⟨x, h1, h2, h3, h4, h5⟩ := h.ex
  have h3 : ¬ x.name = "runtime.NumGoroutine" := by simpa using h3
  have h2 : x.body = none := by simpa using h2
  unfold callFunc
  simp [h1, h2, h3, h4, h5]

theorem mkTab_ok {P : Program} {FT : Tr Func} {TT : Tr TypeInfo} {i1 i2 ng : Nat} {kn : Nat → Bool} (hF : FT = Tr.ofList 20 P.funcs.toList) (hT : TT = Tr.ofList 20 P.types.toList) (hn : (P.funcs.toList.all fun x => !(x.name == "runtime.NumGoroutine")) = true) (hm : P.follows .mixedOrders = true)
    (h1 : ExtFn P i1 Extern.BytealgIndexByte.indexByte) (h2 : ExtFn P i2 Extern.AbiNoEscape.same) (hk : ∀ f, kn f = true → ∀ w, Calls P f #[] w fun en w' => en = .returned (.bool true) ∧ Keep (fun b => b < w.heap.size) w w') : TabOk P (mkTab P FT TT i1 i2 kn ng) := by
  have hfn : ∀ f x, FT.get f = some x → P.funcs[f]? = some x := fun f x h => by
    rw [hF] at h
    have := ofList_get _ _ _ _ h
    rwa [Array.getElem?_toList] at this
  refine ⟨hfn, fun t i h => ?_, fun t h => ?_, fun e n off u h => h, hm, fun f x c h hb args w => ?_, fun f h args w => ?_, fun f h x w => ?_, hk⟩
  · have h : TT.get t = some i := h
    rw [hT] at h
    have := ofList_get _ _ _ _ h
    rw [Array.getElem?_toList] at this
    have hlt : t < P.types.size := (Array.getElem?_eq_some_iff.1 this).1
    unfold Tables.info?
    rw [if_pos hlt]
    exact this
  · have h : (!(P.eqGuardType P.depth t) && !(P.stoodInHeld t)) = true := h
    simpa using h
  · have h := hfn f x h
    have hmem : x ∈ P.funcs.toList := by
      rw [← Array.getElem?_toList] at h
      exact List.mem_of_getElem? h
    have hnn := List.all_eq_true.1 hn x hmem
    have hnn : ¬ x.name = "runtime.NumGoroutine" := by simpa using hnn
    unfold callFunc
    simp [h, hnn, hb]
  · have h : (bif Nat.beq f i1 then some 1 else bif Nat.beq f i2 then some 2 else none) = some 1 := h
    cases e1 : Nat.beq f i1 with
    | true => rw [beq_nat.1 e1]; exact h1.run args w
    | false =>
      rw [e1] at h
      cases e2 : Nat.beq f i2 with
      | true => rw [e2] at h; cases h
      | false => rw [e2] at h; cases h
  · have h : (bif Nat.beq f i1 then some 1 else bif Nat.beq f i2 then some 2 else none) = some 2 := h
    cases e1 : Nat.beq f i1 with
    | true => rw [e1] at h; cases h
    | false =>
      rw [e1] at h
      cases e2 : Nat.beq f i2 with
      | true =>
        rw [beq_nat.1 e2, h2.run #[x] w]
        rfl
      | false => rw [e2] at h; cases h

/-- the environment in which only the package-level variables have their places -/
def env0 (ng : Nat) (sy : Nat → Value) : Env := ⟨fun i => if i < ng then some ⟨i, 0, 0⟩ else none, sy, fun _ => []⟩

theorem rel0 {T : Tab} (sy : Nat → Value) (w : World) : Rel T (fun b => b < w.heap.size) (env0 T.ng sy) ⟨.lf, T.ng, .lf⟩ w := by
  refine ⟨fun i b p hi => ?_, fun i j p q b b' _ hi => ?_, fun i b g hi => ?_, fun i hi => ?_, fun i b p hi => ?_, fun b hb => hb, fun g hg => ⟨0, by simp [env0, hg]⟩⟩
  · rw [Tr.get_lf] at hi; cases hi
  · rw [Tr.get_lf] at hi; cases hi
  · rw [Tr.get_lf] at hi; cases hi
  · refine ⟨?_, by rw [Tr.get_lf]⟩
    have : ¬ i < T.ng := Nat.not_lt.2 hi
    simp [env0, this]
  · rw [Tr.get_lf] at hi; cases hi

/-- does every end of a run say true? -/
def allTrue : Option (List ARes) → Bool
  | some l => l.all fun r => match r.out with
    | .ret (.bool true) => true
    | _ => false
  | none => false

/-- **A run that says true.** -/
theorem calls_true {P : Program} {T : Tab} (hT : TabOk P T) {n f : Nat} {args : List AVal} (h : allTrue (enter T (runN T n) f args false .run ⟨.lf, T.ng, .lf⟩) = true) (sy : Nat → Value) {Args : Array Value} (w : World) (hv : VRels (env0 T.ng sy) args Args.toList) :
    Calls P f Args w fun en w' => en = .returned (.bool true) ∧ Keep (fun b => b < w.heap.size) w w' := by
  unfold allTrue at h
  split at h
  · rename_i l hl
    refine (calls_ok hT hl (rel0 sy w) hv).mono (fun en w' ⟨r, hr, e', _, hk, _, ho⟩ => ?_)
    have := List.all_eq_true.1 h r hr
    split at this
    · rename_i heq
      rw [heq] at ho
      obtain ⟨V, h1, h2⟩ := ho
      simp only [VRel] at h2
      rw [h1, h2]
      exact ⟨rfl, hk⟩
    · cases this
  · cases h
end Go.Proofs.YtplgnjpeikamhaaGreatDoor.Xec
