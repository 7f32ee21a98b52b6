/- The executor's steps are the machine's own, part 5. -/
import Derived.Test.YtplgnjpeikamhaaGreatDoorXe
set_option linter.unusedSectionVars false
set_option linter.unnecessarySimpa false
set_option linter.unusedVariables false
set_option linter.unusedSimpArgs false
namespace Go.Proofs.YtplgnjpeikamhaaGreatDoor.Xec
variable {α β : Type}

theorem notbool {e : Env} {a : AVal} {v : Value} (h : VRel e a v) (h1 : a ≠ .junk) (h2 : ∀ k, a ≠ .sym k) (h3 : ∀ b, a ≠ .bool b) : ∀ b, v ≠ .bool b := by
  intro b hb
  subst hb
  cases a <;> simp only [VRel] at h
  case bool b' => exact h3 _ rfl
  case junk => exact h1 rfl
  case sym k => exact h2 k rfl
  case symi => obtain ⟨_, n, h, _⟩ := h; cases h
  case syms => obtain ⟨_, s, h, _⟩ := h; cases h
  all_goals first
    | (cases h; done)
    | (obtain ⟨_, h⟩ := h; cases h; done)
    | (obtain ⟨_, _, h⟩ := h; cases h; done)
    | (obtain ⟨_, _, _, _, h⟩ := h; cases h; done)
    | (obtain ⟨_, _, _, _, _, h⟩ := h; cases h; done)
    | (obtain ⟨h, _⟩ := h; cases h; done)

theorem yielded_at {ops : Array Oper} {arr : Array Value} {j d : Nat} {oj : Oper} (h1 : ops[j]? = some oj) (h2 : oj.dst = some d) :
    yielded ops arr j = match arr.getD d undef with | .bool b => some b | _ => none := by
  unfold yielded
  rw [h1]
  simp only [Option.bind_some, h2, Array.getD_eq_getD_getElem?]
  cases arr[d]? with
  | none => rfl
  | some v => cases v <;> rfl

theorem wanted_ok {e : Env} {ops : Array Oper} {tm : Tr AVal} {n : Nat} {arr : Array Value} (ht : TRel e tm n arr) {o : Oper} {b : Bool} (h : wantedB ops.toList tm o = some b) : Region.wanted o (yielded ops arr) = b := by
  unfold wantedB at h
  unfold Region.wanted
  split at h
  · rename_i hg; rw [hg]; cases h; rfl
  · rename_i j want hg
    rw [hg]
    dsimp only
    rw [Array.getElem?_toList] at h
    cases hj : ops[j]? with
    | none => rw [hj] at h; cases h; unfold yielded; rw [hj]; rfl
    | some oj =>
      rw [hj] at h
      dsimp only at h
      cases hd : oj.dst with
      | none => rw [hd] at h; cases h; unfold yielded; rw [hj]; simp only [Option.bind_some, hd]; rfl
      | some d =>
        rw [hd] at h
        dsimp only at h
        rw [yielded_at hj hd]
        have hr := ht.2 d
        have nb : (∀ b, arr.getD d undef ≠ .bool b) → ((match arr.getD d undef with | .bool b => some b | _ => none) == some want) = false := by
          intro hh
          cases hv : arr.getD d undef <;> first | rfl | exact (hh _ hv).elim
        split at h
        · rename_i b' hb
          rw [hb] at hr
          simp only [Option.getD_some, VRel] at hr
          rw [hr]
          cases h
          cases b' <;> cases want <;> rfl
        · cases h
        · cases h
        · rename_i h1 h2 h3
          cases h
          refine nb (notbool hr ?_ ?_ ?_)
          · intro hh; cases hx : tm.get d with
            | none => rw [hx] at hh; cases hh
            | some a => rw [hx] at hh; exact h2 (by rw [hx]; exact congrArg some hh)
          · intro k hh; cases hx : tm.get d with
            | none => rw [hx] at hh; cases hh
            | some a => rw [hx] at hh; exact h3 k (by rw [hx]; exact congrArg some hh)
          · intro b hh; cases hx : tm.get d with
            | none => rw [hx] at hh; cases hh
            | some a => rw [hx] at hh; exact h1 b (by rw [hx]; exact congrArg some hh)

theorem finish_b {e : Env} {c : Ctx} {tm : Tr AVal} {ds ds' : List ADef} {fr : Frame} {v : AVal} {V : Value} {D' : List Deferred} {ops : Array Oper} {i : Nat} {rest : List Nat} {K : List Item} {o : Oper} {k : Tr AVal → Option β} {r : β}
    (hf : FrB e c tm ds .run fr) (hv : VRel e v V) (hd : DefsRel e ds' D') (ht : fr.todo = .inRegion ops (i :: rest) :: K) (ho : ops[i]? = some o) (h : putK c.nt tm o.dst v k = some r) :
    ∃ tm', k tm' = some r ∧ FrB e c tm' ds' .run (({ fr with defers := D' } : Frame).finish V) ∧ (({ fr with defers := D' } : Frame).finish V).todo = .inRegion ops rest :: K := by
  unfold putK at h
  cases hdst : o.dst with
  | none =>
    rw [hdst] at h
    have hfin : ({ fr with defers := D' } : Frame).finish V = { fr with defers := D', todo := .inRegion ops rest :: K } := by
      simp [Frame.finish, ht, ho, hdst]
    rw [hfin]
    exact ⟨tm, h, ⟨hf.fn, hf.tmps, hd, hf.mode, hf.kind, hf.rnd⟩, rfl⟩
  | some d =>
    rw [hdst] at h
    dsimp only at h
    cases hdn : Nat.blt d c.nt with
    | false => rw [hdn] at h; cases h
    | true =>
      rw [hdn] at h
      simp only [cond_true] at h
      obtain ⟨tm', h1, h2⟩ := hf.tmps.put (blt_nat.1 hdn) hv h
      have hfin : ({ fr with defers := D' } : Frame).finish V = { fr with defers := D', tmps := fr.tmps.setIfInBounds d V, todo := .inRegion ops rest :: K } := by
        simp [Frame.finish, ht, ho, hdst]
      rw [hfin]
      exact ⟨tm', h1, ⟨hf.fn, h2, hd, hf.mode, hf.kind, hf.rnd⟩, rfl⟩

theorem raise_b {e : Env} {c : Ctx} {tm : Tr AVal} {ds : List ADef} {fr : Frame} {ch : List APan} {C : List PanicEntry} (hf : FrB e c tm ds .run fr) (hc : ChainRel e ch C) : FrB e c tm ds (.pan ch) (fr.raise C) := by
  have hm := hf.mode
  simp only [ModeRel] at hm
  have : fr.raise C = { fr with mode := .panicking C } := by unfold Frame.raise; rw [hm]
  rw [this]
  exact ⟨hf.fn, hf.tmps, hf.defers, ⟨C, hc, rfl⟩, hf.kind, hf.rnd⟩

/-- the end of a region -/
def RegEnd (P : Program) (T : Tab) (F : Nat → Prop) (c : Ctx) (K : List Item) (e : Env) (m : AMem) (w : World) (cs : List Frame) (fr : Frame) (k : Tr AVal → List ADef → AMode → AMem → Option (List ARes)) (kp : List APan → Tr AVal → List ADef → AMode → AMem → Option (List ARes)) (L : List ARes) : Prop :=
  (∃ tm' ds' cm' m' L1 e' w' fr' cs', k tm' ds' cm' m' = some L1 ∧ L1 ⊆ L ∧ Steps P (lone fr cs w) (lone fr' cs' w') ∧ FrB e' c tm' ds' .run fr' ∧ fr'.todo = K ∧ Rel T F e' m' w' ∧ Ext m e e' ∧ m.next ≤ m'.next ∧ Keep F w w' ∧ CsAfter c cs cs' ∧ CsRel e' c cm' cs') ∨
  (∃ ch tm' ds' cm' m' L1 e' w' fr' cs', kp ch tm' ds' cm' m' = some L1 ∧ L1 ⊆ L ∧ Steps P (lone fr cs w) (lone fr' cs' w') ∧ FrB e' c tm' ds' (.pan ch) fr' ∧ Rel T F e' m' w' ∧ Ext m e e' ∧ m.next ≤ m'.next ∧ Keep F w w' ∧ CsAfter c cs cs' ∧ CsRel e' c cm' cs')

theorem RegEnd.after {P : Program} {T : Tab} {F : Nat → Prop} {c : Ctx} {K : List Item} {e e1 : Env} {m m1 : AMem} {w w1 : World} {cs cs1 : List Frame} {fr fr1 : Frame} {k : Tr AVal → List ADef → AMode → AMem → Option (List ARes)} {kp : List APan → Tr AVal → List ADef → AMode → AMem → Option (List ARes)} {L L1 : List ARes}
    (hs : Steps P (lone fr cs w) (lone fr1 cs1 w1)) (hx : Ext m e e1) (hn : m.next ≤ m1.next) (hk : Keep F w w1) (hc : CsAfter c cs cs1) (hl : L1 ⊆ L) (h : RegEnd P T F c K e1 m1 w1 cs1 fr1 k kp L1) : RegEnd P T F c K e m w cs fr k kp L := by
  rcases h with ⟨tm', ds', cm', m', L2, e', w', fr', cs', h1, h2, h3, h4, h5, h6, h7, h8, h9, h10, h11⟩ | ⟨ch, tm', ds', cm', m', L2, e', w', fr', cs', h1, h2, h3, h4, h6, h7, h8, h9, h10, h11⟩
  · exact .inl ⟨tm', ds', cm', m', L2, e', w', fr', cs', h1, fun x hx => hl (h2 hx), hs.trans h3, h4, h5, h6, hx.trans h7 hn, Nat.le_trans hn h8, hk.trans h9, hc.trans h10, h11⟩
  · exact .inr ⟨ch, tm', ds', cm', m', L2, e', w', fr', cs', h1, fun x hx => hl (h2 hx), hs.trans h3, h4, h6, hx.trans h7 hn, Nat.le_trans hn h8, hk.trans h9, hc.trans h10, h11⟩

section
variable {P : Program} {T : Tab} (hT : TabOk P T) {F : Nat → Prop} {run : Run} (hS : Sound P T F run)
include hT hS

theorem runOps_ok {c : Ctx} {K : List Item} {ops : Array Oper} {k : Tr AVal → List ADef → AMode → AMem → Option (List ARes)} {kp : List APan → Tr AVal → List ADef → AMode → AMem → Option (List ARes)} :
    ∀ (r : List Oper) (i : Nat) (tm : Tr AVal) (ds : List ADef) (cm : AMode) (m : AMem) (L : List ARes), ops.toList.drop i = r → runOps T run c ops.toList r tm ds cm m k kp = some L →
    ∀ (e : Env) (w : World) (fr : Frame) (cs : List Frame), Rel T F e m w → FrB e c tm ds .run fr → CsRel e c cm cs → fr.todo = .inRegion ops (List.range' i r.length) :: K → RegEnd P T F c K e m w cs fr k kp L := by
  intro r
  induction r with
  | nil =>
    intro i tm ds cm m L hr h e w fr cs hR hf hcs ht
    simp only [runOps] at h
    refine .inl ⟨tm, ds, cm, m, L, e, w, { fr with todo := K }, cs, h, fun _ h => h, .one (step_lone_go (g_region_end hf.mode ht)), ⟨hf.fn, hf.tmps, hf.defers, hf.mode, hf.kind, hf.rnd⟩, rfl, hR, Ext.refl m e, Nat.le_refl _, Keep.refl F w, CsAfter.refl hcs, hcs⟩
  | cons o r ih =>
    intro i tm ds cm m L hr h e w fr cs hR hf hcs ht
    have ho : ops[i]? = some o := by
      have := congrArg (fun l => l[0]?) hr
      simpa using this
    have hr' : ops.toList.drop (i + 1) = r := by
      have := congrArg List.tail hr
      simpa using this
    simp only [List.length_cons, List.range'_succ] at ht
    simp only [runOps] at h
    split at h
    · rename_i hw
      have hw := wanted_ok hf.tmps hw
      rcases stepOp_ok hT hS hR h hf hcs ht ho hw with ⟨v, ds', cm', m', L1, e', w', cs', V, D', g1, g2, g3, g4, g5, g6, g7, g8, g9, g10, g11⟩ | ⟨ch, m', L1, e', w', C, g1, g2, g3, g4, g5, g6, g7, g8⟩
      · obtain ⟨tm', k1, k2, k3⟩ := finish_b (hf.mono (hR.le g7)) g3 g4 ht ho g1
        exact (ih (i + 1) tm' ds' cm' m' L1 hr' k1 e' w' _ cs' g6 k2 g11 k3).after g5 g7 g8 g9 g10 g2
      · have hle := hR.le g6
        exact .inr ⟨ch, tm, ds, cm, m', L1, e', w', fr.raise C, cs, g1, g2, g4, raise_b (hf.mono hle) g3, g5, g6, g7, g8, CsAfter.refl hcs, hcs.mono hle⟩
    · rename_i hw
      have hw := wanted_ok hf.tmps hw
      obtain ⟨tm', k1, k2, k3⟩ := finish_b hf (undef_rel e) hf.defers ht ho h
      refine (ih (i + 1) tm' ds cm m L hr' k1 e w _ cs hR k2 hcs k3).after (.one (step_lone_go (g_noop hf.mode ht ?_))) (Ext.refl m e) (Nat.le_refl _) (Keep.refl F w) (CsAfter.refl hcs) (fun _ h => h)
      simp [ho, hw]
    · cases h
end
end Go.Proofs.YtplgnjpeikamhaaGreatDoor.Xec

namespace Go.Proofs.YtplgnjpeikamhaaGreatDoor.Xec
variable {α β : Type}

theorem exit_ok {e : Env} {id : Nat} {k : List AItem} {K : List Item} (h : ItemsRel e k K) : (∀ k', aexitTo id k = some k' → ∃ K', exitTo id K = some K' ∧ ItemsRel e k' K' ∧ k' <:+ k) ∧ (aexitTo id k = none → exitTo id K = none) := by
  induction h with
  | nil => exact ⟨fun k' h => by simp [aexitTo] at h, fun _ => rfl⟩
  | cons h1 h2 ih =>
    rename_i a i l K
    have skip : aexitTo id (a :: l) = aexitTo id l → exitTo id (i :: K) = exitTo id K → (∀ k', aexitTo id (a :: l) = some k' → ∃ K', exitTo id (i :: K) = some K' ∧ ItemsRel e k' K' ∧ k' <:+ a :: l) ∧ (aexitTo id (a :: l) = none → exitTo id (i :: K) = none) := by
      intro e1 e2
      rw [e1, e2]
      exact ⟨fun k' hk => by obtain ⟨K', g1, g2, g3⟩ := ih.1 k' hk; exact ⟨K', g1, g2, g3.trans (List.suffix_cons _ _)⟩, ih.2⟩
    cases a with
    | inBlock j =>
      simp only [ItemRel] at h1
      subst h1
      cases hj : Nat.beq j id with
      | true =>
        have := beq_nat.1 hj
        subst this
        exact ⟨fun k' hk => by
          unfold aexitTo at hk
          rw [hj] at hk
          cases hk
          exact ⟨K, by simp [exitTo], h2, List.suffix_cons _ _⟩, fun hk => by unfold aexitTo at hk; rw [hj] at hk; cases hk⟩
      | false =>
        have := beq_nat_false.1 hj
        exact skip (by rw [aexitTo, hj]; rfl) (by simp [exitTo, this])
    | endRangeFunc j => simp only [ItemRel] at h1; obtain ⟨p, hp, rfl⟩ := h1; exact skip rfl rfl
    | _ => simp only [ItemRel] at h1; subst h1; exact skip rfl rfl

theorem goto_ok {e : Env} {id : Nat} {k : List AItem} {K : List Item} (h : ItemsRel e k K) : (∀ k', agotoIn id k = some k' → ∃ K', gotoIn id K = some K' ∧ ItemsRel e k' K' ∧ ∀ b q, (.stopLoop b :: q) <:+ k' → (.stopLoop b :: q) <:+ k) ∧ (agotoIn id k = none → gotoIn id K = none) := by
  induction h with
  | nil => exact ⟨fun k' h => by simp [agotoIn] at h, fun _ => rfl⟩
  | cons h1 h2 ih =>
    rename_i a i l K
    have skip : agotoIn id (a :: l) = agotoIn id l → gotoIn id (i :: K) = gotoIn id K → (∀ k', agotoIn id (a :: l) = some k' → ∃ K', gotoIn id (i :: K) = some K' ∧ ItemsRel e k' K' ∧ ∀ b q, (.stopLoop b :: q) <:+ k' → (.stopLoop b :: q) <:+ a :: l) ∧ (agotoIn id (a :: l) = none → gotoIn id (i :: K) = none) := by
      intro e1 e2
      rw [e1, e2]
      exact ⟨fun k' hk => by obtain ⟨K', g1, g2, g3⟩ := ih.1 k' hk; exact ⟨K', g1, g2, fun b q hq => (g3 b q hq).trans (List.suffix_cons _ _)⟩, ih.2⟩
    cases a with
    | inScope body =>
      simp only [ItemRel] at h1
      subst h1
      cases hf : findLabel body id with
      | some rest =>
        exact ⟨fun k' hk => by
          unfold agotoIn at hk
          rw [hf] at hk
          cases hk
          refine ⟨.code rest :: .inScope body :: K, by simp [gotoIn, hf], .cons rfl (.cons rfl h2), fun b q hq => ?_⟩
          exact stop_cons (by simp) hq, fun hk => by unfold agotoIn at hk; rw [hf] at hk; cases hk⟩
      | none => exact skip (by rw [agotoIn, hf]) (by simp [gotoIn, hf])
    | endRangeFunc j => simp only [ItemRel] at h1; obtain ⟨p, hp, rfl⟩ := h1; exact skip rfl rfl
    | _ => simp only [ItemRel] at h1; subst h1; exact skip rfl rfl

section
variable {P : Program} {T : Tab} (hT : TabOk P T) {F : Nat → Prop} {run : Run} (hS : Sound P T F run)
include hT

theorem resultVals_ok {e : Env} {m : AMem} {w : World} (hR : Rel T F e m w) {tm : Tr AVal} {n : Nat} {arr : Array Value} (ht : TRel e tm n arr) : ∀ (rs : List ResultVar) (l : List AVal), resultVals T tm m rs = some l →
    ∃ vs, VRels e l vs ∧ (rs.mapM (fun | .tmp t => Pure.pure (arr.getD t undef) | .cell a t => do Go.loadVar t (← asAddr (arr.getD a undef)) : ResultVar → Sem Value)).run P w = .ok vs w := by
  intro rs
  induction rs with
  | nil => intro l h; cases h; exact ⟨[], VRels.mk_nil e, rfl⟩
  | cons r rs ih =>
    intro l h
    simp only [resultVals] at h
    split at h
    · rename_i v l' hv hl
      cases h
      obtain ⟨vs, h1, h2⟩ := ih _ hl
      have : ∃ V, VRel e v V ∧ ((fun | .tmp t => Pure.pure (arr.getD t undef) | .cell a t => do Go.loadVar t (← asAddr (arr.getD a undef)) : ResultVar → Sem Value) r).run P w = .ok V w := by
        cases r with
        | tmp t =>
          have hr := ht.2 t
          simp only [resultVal] at hv
          refine ⟨arr.getD t undef, ?_, rfl⟩
          cases hg : tm.get t with
          | none => rw [hg] at hv hr; cases hv; exact hr
          | some a => rw [hg] at hv hr; cases hv; exact hr
        | cell a t =>
          have hr := ht.2 a
          simp only [resultVal] at hv
          split at hv
          · rename_i id off hg
            rw [hg] at hr
            simp only [Option.getD_some, VRel] at hr
            obtain ⟨p, hp, hr⟩ := hr
            obtain ⟨V, g1, g2⟩ := loadVar_ok hT hR hp hv
            exact ⟨V, g2, by simp only [hr]; simp [asAddr, g1]⟩
          · cases hv
      obtain ⟨V, g1, g2⟩ := this
      refine ⟨V :: vs, VRels.mk_cons g1 h1, ?_⟩
      rw [List.mapM_cons, Sem.run_bind, g2, Result.andThen_ok, Sem.run_bind, h2]
      rfl
    · cases h

theorem tellRes_ok {e : Env} {m : AMem} {w : World} (hR : Rel T F e m w) {tm : Tr AVal} {n : Nat} {arr : Array Value} (ht : TRel e tm n arr) {f : Nat} {v : AVal} (h : tellRes T f tm m = some v) :
    ∃ fn V, P.funcs[f]? = some fn ∧ VRel e v V ∧ (results fn arr).run P w = .ok V w := by
  unfold tellRes at h
  split at h
  · rename_i fn hf
    have key : ∀ l, resultVals T tm m fn.results.toList = some l → ∃ vs, VRels e l vs ∧ (results fn arr).run P w = .ok (if h : vs.toArray.size = 1 then vs.toArray[0] else .tuple vs.toArray) w := by
      intro l hl
      obtain ⟨vs, h1, h2⟩ := resultVals_ok hT hR ht _ _ hl
      refine ⟨vs, h1, ?_⟩
      unfold results
      rw [Sem.run_bind, Array.mapM_eq_mapM_toList, Sem.run_map]
      exact congrArg (fun x => (Result.andThen x fun (a : List Value) w' => Result.ok a.toArray w').andThen fun (a : Array Value) w' => Sem.run P (Pure.pure (if h : a.size = 1 then a[0] else Value.tuple a) : Sem Value) w') h2
    split at h
    · rename_i v' hl
      cases h
      obtain ⟨vs, h1, h2⟩ := key _ hl
      obtain ⟨V, r, rfl, g1, g2⟩ := h1.cons
      obtain rfl := g2.nil
      exact ⟨fn, V, hT.fn _ _ hf, g1, h2⟩
    · rename_i l hne hl
      cases h
      obtain ⟨vs, h1, h2⟩ := key _ hl
      have hlen := h1.length
      refine ⟨fn, .tuple vs.toArray, hT.fn _ _ hf, by simp only [VRel]; exact ⟨vs, h1, rfl⟩, ?_⟩
      rw [h2, dif_neg]
      intro hh
      simp only [List.size_toArray] at hh
      cases l with
      | nil => simp only [List.length_nil] at hlen; omega
      | cons a l => cases l with
        | nil => exact hne a rfl
        | cons b l => simp only [List.length_cons] at hlen; omega
    · cases h
  · cases h

theorem leaveK_ok (hS : Sound P T F run) {c : Ctx} {tm : Tr AVal} {todo : List AItem} {ds : List ADef} {cm : AMode} {m : AMem} {j : Option Code} {L : List ARes} (h : leaveK T run c tm ds cm m j = some L) {e : Env} {w : World} {fr : Frame} {cs : List Frame}
    (hR : Rel T F e m w) (hf : FrB e c tm ds .run fr) (hc : CsRel e c cm cs) (ha : asks fr j) : Ends P T F c todo cs fr w e m L := by
  unfold leaveK at h
  split at h
  · rename_i hrnd
    have hr := hf.rnd
    rw [hrnd] at hr
    have go : (j = none ∨ j = some .ret) → run c tm [] ds .returning cm m = some L → Ends P T F c todo cs fr w e m L := fun hj h =>
      Ends.silent hS h (g_leave hf.mode hj ha hr) hR ⟨⟨hf.fn, hf.tmps, hf.defers, rfl, hf.kind, hf.rnd⟩, fun hh => by cases hh⟩ hc (fun b k hh => (stop_nil hh).elim)
    split at h
    · exact go (.inl rfl) h
    · exact go (.inr rfl) h
    · cases h
  · rename_i id hrnd
    have hr := hf.rnd
    rw [hrnd] at hr
    obtain ⟨p, hp, hr⟩ := hr
    split at h
    · unfold endRoundK at h
      split at h
      · rename_i l hb
        rw [AMem.get_blks] at hb
        obtain ⟨q, arr, hq, ht, hobj⟩ := hR.real _ _ _ hb hp
        have h' : (setBlkK m id (.loop ⟨if j.isNone then .ready else .done, j, l.fn, l.tm, l.nt, l.params, l.assign, l.body, l.defers⟩) fun m' => some [⟨.ret (.bool j.isNone), cm, m'⟩]) = some L := by cases j <;> exact h
        obtain ⟨m', k1, k2, k3, k4⟩ := setBlkK_some h'
        obtain ⟨b1, b2, b3⟩ := hR.setObj (P := P) (m' := m') (b1 := .loop ⟨if j.isNone then .ready else .done, j, l.fn, l.tm, l.nt, l.params, l.assign, l.body, l.defers⟩)
          (ob' := .loop { state := if j.isNone then .ready else .done, pending := j, fn := l.fn, tmps := arr, params := l.params.toArray, assign := l.assign, body := l.body, defers := q.blk }) hb hp rfl rfl rfl rfl k2 k3 k4 hobj (by simp)
          (fun heap hh => ⟨q, arr, hq, ht, hh⟩)
        cases k1
        have hend : (Instr.endRound p.blk j).run P w = .ok (.bool j.isNone) { w with heap := w.heap.setIfInBounds p.blk (.loop { state := if j.isNone then .ready else .done, pending := j, fn := l.fn, tmps := arr, params := l.params.toArray, assign := l.assign, body := l.body, defers := q.blk }) } := by
          unfold Instr.endRound Instr.getLoop
          simp only [Sem.run_bind, run_getObj hobj (by simp), Result.andThen_ok, Sem.run_pure]
          simp only [b1, Result.andThen_ok]
        exact ⟨_, List.mem_singleton.2 rfl, e, w, fr, cs, Steps.refl _ _, Ext.refl m e, by simp; omega, CsAfter.refl hc, hc,
          _, _, (by simp only [VRel]), b2, b3, hf.kind, g_leave_round hf.mode ha hr hend, fun hh => by rw [hrnd] at hh; cases hh⟩
      · cases h
    · cases h
end
end Go.Proofs.YtplgnjpeikamhaaGreatDoor.Xec

namespace Go.Proofs.YtplgnjpeikamhaaGreatDoor.Xec
variable {α β : Type}

theorem settle_ok {e : Env} {md : AMode} {caller : Frame} (h : ModeRel e md caller.mode) :
    ModeRel e (asettle md) (match caller.mode with
        | .panicking ({ recovered := true, .. } :: older) =>
          match older.dropWhile (!·.goexit) with
          | [] => { caller with mode := .returning }
          | rest => { caller with mode := .panicking rest }
        | _ => caller : Frame).mode ∧ ∃ md', (match caller.mode with
        | .panicking ({ recovered := true, .. } :: older) =>
          match older.dropWhile (!·.goexit) with
          | [] => { caller with mode := .returning }
          | rest => { caller with mode := .panicking rest }
        | _ => caller : Frame) = { caller with mode := md' } := by
  cases md with
  | run => simp only [ModeRel] at h; rw [h]; exact ⟨h, caller.mode, rfl⟩
  | returning => simp only [ModeRel] at h; rw [h]; exact ⟨h, caller.mode, rfl⟩
  | pan ch =>
    obtain ⟨C, h1, h2⟩ := h
    cases h1 with
    | nil => rw [h2]; exact ⟨⟨[], .nil, h2⟩, caller.mode, rfl⟩
    | cons g1 g2 g3 g4 =>
      rename_i a p l k
      obtain ⟨av, ar⟩ := a
      obtain ⟨pv, pr, pg⟩ := p
      dsimp only at g1 g2 g3
      subst g2; subst g3
      cases pr with
      | true =>
        rw [h2]
        dsimp only
        rw [g4.noexit]
        exact ⟨rfl, .returning, rfl⟩
      | false =>
        rw [h2]
        exact ⟨⟨_, .cons g1 rfl rfl g4, h2⟩, caller.mode, rfl⟩

theorem araise_ok {e : Env} {md : AMode} {fr : Frame} {ch : List APan} {C : List PanicEntry} (h : ModeRel e md fr.mode) (hc : ChainRel e ch C) : ModeRel e (araise md ch) (fr.raise C).mode ∧ ∃ md', fr.raise C = { fr with mode := md' } := by
  unfold Frame.raise
  cases md with
  | run => simp only [ModeRel] at h; rw [h]; exact ⟨⟨C, hc, rfl⟩, _, rfl⟩
  | returning => simp only [ModeRel] at h; rw [h]; exact ⟨⟨C, hc, rfl⟩, _, rfl⟩
  | pan old =>
    obtain ⟨C', h1, h2⟩ := h
    rw [h2]
    exact ⟨⟨C ++ C', hc.append h1, rfl⟩, _, rfl⟩

theorem doReturn_deferred {P : Program} {fr caller : Frame} {cs : List Frame} {V : Value} {w : World} (hk : fr.kind = .deferred) : (doReturn P true fr (caller :: cs) none V w).bare = .go (gAt (match caller.mode with
        | .panicking ({ recovered := true, .. } :: older) =>
          match older.dropWhile (!·.goexit) with
          | [] => { caller with mode := .returning }
          | rest => { caller with mode := .panicking rest }
        | _ => caller : Frame) cs) w := by
  unfold doReturn
  simp only [hk]
  rfl

section
variable {P : Program} {T : Tab} (hT : TabOk P T) {F : Nat → Prop} {run : Run} (hS : Sound P T F run)
include hT hS

theorem unwindK_ok {c : Ctx} {tm : Tr AVal} {todo : List AItem} {ds : List ADef} {d : ADef} {md cm : AMode} {m : AMem} {L : List ARes} (h : body.unwindK T run c tm ds d md cm m = some L) {e : Env} {w : World} {fr : Frame} {cs : List Frame}
    (hR : Rel T F e m w) (hf : FrB e c tm (d :: ds) md fr) (hc : CsRel e c cm cs) (hmd : md ≠ .run) : Ends P T F c todo cs fr w e m L := by
  have hnr : fr.mode ≠ .run := by
    intro hh
    have hm := hf.mode
    cases md with
    | run => exact hmd rfl
    | returning => simp only [ModeRel] at hm; rw [hm] at hh; cases hh
    | pan ch => obtain ⟨C, _, h2⟩ := hm; rw [h2] at hh; cases hh
  have hD := hf.defers
  obtain ⟨D, Ds, hfd, hd1, hd2⟩ : ∃ D Ds, fr.defers = D :: Ds ∧ DefRel e d D ∧ DefsRel e ds Ds := by
    generalize fr.defers = l at hD
    cases hD with
    | cons a b => exact ⟨_, _, rfl, a, b⟩
  have hunw : (stepG P true (gAt fr cs) w).bare = (unwind P true fr cs none w).bare := by
    unfold stepG gAt
    dsimp only
    split
    · rename_i heq; cases heq
    · rename_i heq _; exact (hnr heq).elim
    · rfl
  unfold body.unwindK at h
  split at h
  · rename_i r0 args
    obtain ⟨p, hp, rfl⟩ := hd1
    split at h
    · rename_i l hb
      rw [AMem.get_blks] at hb
      obtain ⟨Ll, hLl, hobj⟩ := hR.real _ _ _ hb hp
      obtain ⟨m', k1, k2, k3, k4⟩ := setBlkK_some h
      obtain ⟨b1, b2, b3⟩ := hR.setObj (P := P) (m' := m') (b1 := .defs none) (ob' := .deferred none) hb hp rfl rfl rfl rfl k2 k3 k4 hobj (by simp) (fun heap hh => hh)
      have htake : (Instr.takeDeferred p.blk).run P w = .ok Ll { w with heap := w.heap.setIfInBounds p.blk (.deferred none) } := by
        unfold Instr.takeDeferred
        simp only [Sem.run_bind, run_getObj hobj (by simp), Result.andThen_ok, b1, Sem.run_pure]
      have hst : (stepG P true (gAt fr cs) w).bare = .go (gAt { fr with defers := Ll ++ Ds } cs) { w with heap := w.heap.setIfInBounds p.blk (.deferred none) } := by
        rw [hunw]; unfold unwind; rw [hfd]; simp [htake, gAt]
      exact (hS _ _ _ _ _ _ _ _ k1 e _ { fr with defers := Ll ++ Ds } cs b2 ⟨⟨hf.fn, hf.tmps, hLl.append hd2, hf.mode, hf.kind, hf.rnd⟩, fun hh => (hmd hh).elim⟩ hc).after (.one (step_lone_go hst)) (Ext.refl m e) (by omega) b3 (CsAfter.refl hc) (fun b k hh => (stop_nil hh).elim) (fun _ h => h)
    · cases h
  · rename_i fn cap args
    obtain ⟨hny, Cs, As, h1, h2, h3, h4⟩ := hd1
    obtain ⟨Dt, Da⟩ := D
    dsimp only at h1 h2
    subst h1; subst h2
    have hcd : ∀ n w', (invoke (.fn fn Cs.toArray) As.toArray).run P w = .ok n w' → (∃ f A, n = .enter f A) ∨ (∃ v, n = .value v) → (stepG P true (gAt fr cs) w).bare = (match n with
        | .enter f A => .go (gAt (Frame.enter P f A .deferred) ({ fr with defers := Ds } :: cs)) w'
        | _ => .go (gAt { fr with defers := Ds } cs) w') := by
      intro n w' hn hnn
      rw [hunw]; unfold unwind; rw [hfd]
      rcases hnn with ⟨f, A, rfl⟩ | ⟨v, rfl⟩ <;> simp [callDeferred, hn, gAt]
    obtain ⟨ac, g1, g2⟩ := acallFn_ok hT hR (Args := As.toArray) (Cap := Cs.toArray) (by simpa using h4) (by simpa using h3) h
    split at g1
    · rename_i f as
      obtain ⟨Args, a1, a2, a3⟩ := g2
      split at g1
      · rename_i l hl
        obtain ⟨nt, cd, r, hr, e', w', fr', cs', b1, b2, b3, b4, b5, b6⟩ := enter_ok hT hS hR a1 hl (cs := { fr with defers := Ds } :: cs) (fun _ => ⟨_, _, rfl, hf.mode⟩)
        obtain ⟨L1, c1, c2⟩ := bindL_some _ _ _ g1 r hr
        obtain ⟨caller, rest, hcal, hcm⟩ := b5 rfl
        obtain ⟨caller0, rest0, md', hq1, hq2, hq3⟩ := b4.2 rfl
        cases hq1
        rw [hq2] at hcal
        cases hcal
        have hle := hR.le b2
        have hs1 : Steps P (lone fr cs w) (lone (Frame.enter P f Args (if true = true then .deferred else .normal)) ({ fr with defers := Ds } :: cs) w) := .one (step_lone_go (hcd _ _ a3 (.inl ⟨_, _, rfl⟩)))
        obtain ⟨out, mdr, mem⟩ := r
        cases out with
        | ret v =>
          obtain ⟨V, w'', j1, j2, j3, j4, j5, _⟩ := b6
          obtain ⟨s1, mds, s2⟩ := settle_ok hcm
          refine (hS _ _ _ _ _ _ _ _ c1 e' w'' _ cs j2 ⟨⟨?_, ?_, ?_, s1, ?_, ?_⟩, fun hh => ?_⟩ (hc.mono hle)).after ((hs1.trans b1).trans (.one (step_lone_go ?_))) b2 b3 j3 (CsAfter.refl hc) (fun b k hh => (stop_nil hh).elim) c2
          · rw [s2]; exact hf.fn
          · rw [s2]; exact hf.tmps.mono hle
          · rw [s2]; exact hd2.mono hle
          · rw [s2]; exact hf.kind
          · rw [s2]; exact (hf.mono hle).rnd
          · exfalso
            have : mdr = .run := by
              unfold asettle at hh
              split at hh
              · cases hh
              · exact hh
            subst this
            exact hnr (hq3 hcm)
          · rw [show ({ frame := fr', callers := cs', status := .running, dying := none } : Goroutine) = gAt fr' cs' from rfl, j5, hq2]
            have hk : fr'.kind = .deferred := by rw [j4]; rfl
            exact doReturn_deferred hk
        | pan ch =>
          obtain ⟨j1, j2, j3, j4, ⟨C, j5, j6⟩, fn, j7⟩ := b6
          obtain ⟨s1, mds, s2⟩ := araise_ok hcm j5
          refine (hS _ _ _ _ _ _ _ _ c1 e' w' _ cs j1 ⟨⟨?_, ?_, ?_, s1, ?_, ?_⟩, fun hh => ?_⟩ (hc.mono hle)).after ((hs1.trans b1).trans (.one (step_lone_go ?_))) b2 b3 j2 (CsAfter.refl hc) (fun b k hh => (stop_nil hh).elim) c2
          · rw [s2]; exact hf.fn
          · rw [s2]; exact hf.tmps.mono hle
          · rw [s2]; exact hd2.mono hle
          · rw [s2]; exact hf.kind
          · rw [s2]; exact (hf.mono hle).rnd
          · exfalso
            cases mdr <;> simp only [araise] at hh <;> cases hh
          · rw [hq2]; simp [stepG, unwind, Frame.catches, j6, j4, j7]
        | atLoop tm ds b k => cases c1
      · cases g1
    · rename_i v
      obtain ⟨V, a1, a2⟩ := g2
      exact Ends.silent hS g1 (hcd _ _ a2 (.inr ⟨V, rfl⟩)) hR ⟨⟨hf.fn, hf.tmps, hd2, hf.mode, hf.kind, hf.rnd⟩, fun hh => (hmd hh).elim⟩ hc (fun b k hh => (stop_nil hh).elim)
    · cases g1
end
end Go.Proofs.YtplgnjpeikamhaaGreatDoor.Xec

namespace Go.Proofs.YtplgnjpeikamhaaGreatDoor.Xec
variable {α β : Type}

def PlanOk (P : Program) (T : Tab) (F : Nat → Prop) (run : Run) : Prop :=
  ∀ c tm ds cm m ops pl k L, planOf T ops = some pl → runPlan T run c ops.toList pl [] tm cm m k = some L → ∀ e w fr cs K t, Rel T F e m w → FrB e c tm ds .run fr → CsRel e c cm cs →
    fr.todo = .inRegion ops (Region.schedule (P.follows .mixedOrders) ops t) :: K →
    ∃ tm' cm' m' L1 e' w' fr' cs', k tm' cm' m' = some L1 ∧ L1 ⊆ L ∧ Steps P (lone fr cs w) (lone fr' cs' w') ∧ FrB e' c tm' ds .run fr' ∧ fr'.todo = K ∧ Rel T F e' m' w' ∧ Ext m e e' ∧ m.next ≤ m'.next ∧ Keep F w w' ∧ CsAfter c cs cs' ∧ CsRel e' c cm' cs'

def LoopOk (P : Program) (T : Tab) (F : Nat → Prop) (run : Run) : Prop :=
  ∀ c tm k ds cm m b L, loopK T run c tm k ds cm m b = some L → ∀ e w fr cs K todo, Rel T F e m w → FrB e c tm ds .run fr → CsRel e c cm cs → fr.todo = .code b :: .inLoop b :: K → ItemsRel e k K →
    (∀ b' q, (.stopLoop b' :: q) <:+ k → (.stopLoop b' :: q) <:+ todo) → Ends P T F c todo cs fr w e m L

section
variable {P : Program} {T : Tab} (hT : TabOk P T) {F : Nat → Prop} {run : Run} (hS : Sound P T F run)

theorem FrB.todo {e : Env} {c : Ctx} {tm : Tr AVal} {ds : List ADef} {md : AMode} {fr : Frame} (h : FrB e c tm ds md fr) (K : List Item) : FrB e c tm ds md { fr with todo := K } := ⟨h.fn, h.tmps, h.defers, h.mode, h.kind, h.rnd⟩

include hS
theorem RegEnd.ends {c : Ctx} {todo k : List AItem} {K : List Item} {e : Env} {m : AMem} {w : World} {cs : List Frame} {fr : Frame} {L : List ARes} (hk : ItemsRel e k K) (hR : Rel T F e m w) (ht : ∀ b' q, (.stopLoop b' :: q) <:+ k → (.stopLoop b' :: q) <:+ todo)
    (h : RegEnd P T F c K e m w cs fr (fun tm' ds' cm' m' => run c tm' k ds' .run cm' m') (fun ch tm' ds' cm' m' => run c tm' [] ds' (.pan ch) cm' m') L) : Ends P T F c todo cs fr w e m L := by
  rcases h with ⟨tm', ds', cm', m', L1, e', w', fr', cs', h1, h2, h3, h4, h5, h6, h7, h8, h9, h10, h11⟩ | ⟨ch, tm', ds', cm', m', L1, e', w', fr', cs', h1, h2, h3, h4, h6, h7, h8, h9, h10, h11⟩
  · exact (hS _ _ _ _ _ _ _ _ h1 e' w' fr' cs' h6 ⟨h4, fun _ => by rw [h5]; exact hk.mono (hR.le h7)⟩ h11).after h3 h7 h8 h9 h10 ht h2
  · exact (hS _ _ _ _ _ _ _ _ h1 e' w' fr' cs' h6 ⟨h4, fun hh => by cases hh⟩ h11).after h3 h7 h8 h9 h10 (fun b k hh => (stop_nil hh).elim) h2

include hT

theorem rangeFunc_ok {c : Ctx} {tm : Tr AVal} {todo k : List AItem} {ds ds' : List ADef} {cm : AMode} {m m1 : AMem} {L : List ARes} {e e1 : Env} {w w1 : World} {fr : Frame} {cs : List Frame} {K : List Item} {f : Operand} {ps : Array Tmp} {asg bd : Code} {fn : Fn} {first cap : List AVal} {defers : Nat} {q : Plc} {mark : List Deferred}
    (hR : Rel T F e m w) (hf : FrB e c tm ds .run fr) (hc : CsRel e c cm cs) (ht : fr.todo = .code (.rangeFunc f ps asg bd) :: K) (hk : ItemsRel e k K) (hst : ∀ b' q, (.stopLoop b' :: q) <:+ k → (.stopLoop b' :: q) <:+ todo)
    (hfv : VRel e (.func fn first cap) (fr.eval f)) (hR1 : Rel T F e1 m1 w1) (hx1 : Ext m e e1) (hn1 : m.next ≤ m1.next) (hk1 : Keep F w w1) (hq : e1.pl defers = some q) (hds : DefsRel e1 ds' (mark ++ fr.defers))
    (hrun : (Instr.enterLoop fr.fn fr.tmps ps asg bd fr.roundOf).run P w = .ok (w1.heap.size, mark) (w1.alloc (.loop { state := .ready, pending := none, fn := fr.fn, tmps := fr.tmps, params := ps, assign := asg, body := bd, defers := q.blk })))
    (h : (newBlkK m1 (.loop ⟨.ready, none, c.fn, tm, c.nt, ps.toList, asg, bd, defers⟩) fun l m2 =>
                appK first [.yld l] fun args => acallFn T fn args cap m2 fun ac =>
                  callOp T run ac m2 (fun _ m3 => run c tm (.endRangeFunc l :: k) ds' .run cm m3) (fun ch m3 => run c tm [] ds' (.pan ch) cm m3)) = some L) : Ends P T F c todo cs fr w e m L := by
  have hle1 := hR.le hx1
  obtain ⟨m2, h1, hn, hg, hb⟩ := newBlkK_some h
  obtain ⟨a1, a2, a3⟩ := hR1.alloc (.loop ⟨.ready, none, c.fn, tm, c.nt, ps.toList, asg, bd, defers⟩) (.loop { state := .ready, pending := none, fn := fr.fn, tmps := fr.tmps, params := ps, assign := asg, body := bd, defers := q.blk }) 0 rfl hn hg hb (by
    have hle2 := hR1.le (Ext.add m1 e1 ⟨w1.heap.size, 0, 0⟩)
    exact ⟨q, fr.tmps, hle2.2 _ _ hq, (hf.tmps.mono hle1).mono hle2, by simp [hf.fn]⟩)
  obtain ⟨e2, he2⟩ : ∃ e2, e2 = e1.add m1.next ⟨w1.heap.size, 0, 0⟩ := ⟨_, rfl⟩
  rw [← he2] at a1 a2
  have hle2 := hR1.le a2
  have hlp : e2.pl m1.next = some ⟨w1.heap.size, 0, 0⟩ := by rw [he2]; simp [Env.add]
  rw [appK_eq] at h1
  have hfv2 := (hfv.mono hle1).mono hle2
  simp only [VRel] at hfv2
  obtain ⟨hny, fs, cps, v1, v2, hfe⟩ := hfv2
  have hyld : VRel e2 (.yld m1.next) (.func (.yield w1.heap.size) #[] #[]) := by simp only [VRel]; exact ⟨_, hlp, rfl⟩
  obtain ⟨ac, g1, g2⟩ := acallFn_ok hT a1 (Args := fs.toArray ++ #[.func (.yield w1.heap.size) #[] #[]]) (Cap := cps.toArray) (by simpa using v1.append (VRels.mk_cons hyld (VRels.mk_nil e2))) (by simpa using v2) h1
  have hstep := g_rangeFunc (P := P) (cs := cs) hf.mode ht hrun
  have g3 : CallRel P T e2 (w1.alloc (.loop { state := .ready, pending := none, fn := fr.fn, tmps := fr.tmps, params := ps, assign := asg, body := bd, defers := q.blk })) ac
      (do let d ← resolve fr.eval { callee := .value f, args := #[.const (.func (.yield w1.heap.size) #[] #[])], argTypes := #[] } 0; invoke d.target d.args) := by
    refine CallRel.run hT g2 ?_
    have hres : resolve fr.eval { callee := .value f, args := #[.const (.func (.yield w1.heap.size) #[] #[])], argTypes := #[] } 0 = (Pure.pure { target := .fn fn cps.toArray, args := fs.toArray ++ #[.func (.yield w1.heap.size) #[] #[]] } : Sem Deferred) := by
      unfold resolve
      show Deferred.ofValue (fr.eval f) _ = _
      rw [hfe]
      simp [Deferred.ofValue, Frame.eval]
    rw [hres]
    rfl
  have hx2 : Ext m e e2 := hx1.trans a2 hn1
  rcases callOp_ok hT hS a1 g1 g3 hstep (by intro d r sv k hh; cases hh) with ⟨v, m3, L1, e3, w3, V, j1, j2, j3, j4, j5, j6, j7, j8⟩ | ⟨ch, m3, L1, e3, w3, C, j1, j2, j3, j4, j5, j6, j7, j8⟩
  · have hle3 := a1.le j6
    have hle : e.le e3 := Env.le_trans (Env.le_trans hle1 hle2) hle3
    refine (hS _ _ _ _ _ _ _ _ j1 e3 w3 (({ fr with todo := .inRangeFunc w1.heap.size :: K, defers := mark ++ fr.defers } : Frame).finish V) cs j5 ⟨⟨hf.fn, hf.tmps.mono hle, hds.mono (Env.le_trans hle2 hle3), hf.mode, hf.kind, (hf.mono hle).rnd⟩, fun _ => ?_⟩ (hc.mono hle)).after j4 (hx2.trans j6 (by omega)) (by omega) (hk1.trans (a3.trans j8)) (CsAfter.refl hc)
      (fun b' q' hh => hst b' q' (stop_cons (by simp) hh)) j2
    exact .cons ⟨_, hle3.2 _ _ hlp, rfl⟩ (hk.mono hle)
  · have hle3 := a1.le j6
    have hle : e.le e3 := Env.le_trans (Env.le_trans hle1 hle2) hle3
    have hm := hf.mode
    simp only [ModeRel] at hm
    have hfb : FrB e3 c tm ds' (.pan ch) (({ fr with todo := .inRangeFunc w1.heap.size :: K, defers := mark ++ fr.defers } : Frame).raise C) :=
      raise_b (fr := { fr with todo := .inRangeFunc w1.heap.size :: K, defers := mark ++ fr.defers }) ⟨hf.fn, hf.tmps.mono hle, hds.mono (Env.le_trans hle2 hle3), hf.mode, hf.kind, (hf.mono hle).rnd⟩ j3
    exact (hS _ _ _ _ _ _ _ _ j1 e3 w3 _ cs j5 ⟨hfb, fun hh => by cases hh⟩ (hc.mono hle)).after j4 (hx2.trans j6 (by omega)) (by omega) (hk1.trans (a3.trans j8)) (CsAfter.refl hc)
      (fun b k hh => (stop_nil hh).elim) j2
end
end Go.Proofs.YtplgnjpeikamhaaGreatDoor.Xec

namespace Go.Proofs.YtplgnjpeikamhaaGreatDoor.Xec
variable {α β : Type}

section
variable {P : Program} {T : Tab} (hT : TabOk P T) {F : Nat → Prop} {run : Run} (hS : Sound P T F run) (hP : PlanOk P T F run) (hL : LoopOk P T F run)
include hT hS hP hL

theorem body_ok : Sound P T F (body T run) := by
  intro c tm todo ds md cm m L h e w fr cs hR hf hc
  unfold body at h
  have hfb := hf.b
  split at h
  · -- run
    have hi := hf.todo rfl
    have hm := hfb.mode
    simp only [ModeRel] at hm
    split at h
    · generalize hto : fr.todo = l at hi
      cases hi
      exact leaveK_ok hT hS h hR hfb hc hto
    · rename_i it k
      obtain ⟨i, K, hto, h1, h2⟩ : ∃ i K, fr.todo = i :: K ∧ ItemRel e it i ∧ ItemsRel e k K := by
        generalize fr.todo = l at hi
        cases hi with
        | cons a b => exact ⟨_, _, rfl, a, b⟩
      have back : (∀ b, it ≠ .stopLoop b) → ∀ b q, (.stopLoop b :: q) <:+ k → (.stopLoop b :: q) <:+ it :: k := fun _ b q hq => hq.trans (List.suffix_cons _ _)
      split at h
      · rename_i cd
        simp only [ItemRel] at h1
        subst h1
        have bk := back (by simp)
        split at h
        · exact leaveK_ok hT hS h hR hfb hc ⟨_, hto⟩
        · exact Ends.silent hS h (g_skip hm hto) hR ⟨hfb.todo _, fun _ => h2⟩ hc bk
        · exact Ends.silent hS h (g_label hm hto) hR ⟨hfb.todo _, fun _ => h2⟩ hc bk
        · exact Ends.silent hS h (g_seq hm hto) hR ⟨hfb.todo _, fun _ => .cons rfl (.cons rfl h2)⟩ hc (fun b q hq => bk b q (stop_cons (by simp) (stop_cons (by simp) hq)))
        · split at h
          · rename_i hx
            have hx := evalO_ok hR hfb.tmps _ _ hx
            simp only [VRel] at hx
            exact Ends.silent hS h (g_cond hm hto hx) hR ⟨hfb.todo _, fun _ => .cons rfl h2⟩ hc (fun b q hq => bk b q (stop_cons (by simp) hq))
          · rename_i hx
            have hx := evalO_ok hR hfb.tmps _ _ hx
            simp only [VRel] at hx
            exact Ends.silent hS h (g_cond hm hto hx) hR ⟨hfb.todo _, fun _ => .cons rfl h2⟩ hc (fun b q hq => bk b q (stop_cons (by simp) hq))
          · cases h
        · exact Ends.silent hS h (g_block hm hto) hR ⟨hfb.todo _, fun _ => .cons rfl (.cons rfl h2)⟩ hc (fun b q hq => bk b q (stop_cons (by simp) (stop_cons (by simp) hq)))
        · rename_i b
          exact (hL _ _ _ _ _ _ _ _ h e w _ cs K (.code (.loop b) :: k) hR (hfb.todo _) hc rfl h2 bk).after (.one (step_lone_go (g_loop hm hto))) (Ext.refl m e) (Nat.le_refl _) (Keep.refl F w) (CsAfter.refl hc) (fun _ _ h => h) (fun _ h => h)
        · exact Ends.silent hS h (g_scope hm hto) hR ⟨hfb.todo _, fun _ => .cons rfl (.cons rfl h2)⟩ hc (fun b q hq => bk b q (stop_cons (by simp) (stop_cons (by simp) hq)))
        · rename_i id
          obtain ⟨g1, g2⟩ := exit_ok (id := id) h2
          split at h
          · rename_i k' hk'
            obtain ⟨K', g3, g4, g5⟩ := g1 _ hk'
            exact Ends.silent hS h (g_exit hm hto g3) hR ⟨hfb.todo _, fun _ => g4⟩ hc (fun b q hq => bk b q (hq.trans g5))
          · rename_i hk'
            exact leaveK_ok hT hS h hR hfb hc ⟨_, hto, g2 hk'⟩
        · rename_i id
          obtain ⟨g1, g2⟩ := goto_ok (id := id) h2
          split at h
          · rename_i k' hk'
            obtain ⟨K', g3, g4, g5⟩ := g1 _ hk'
            exact Ends.silent hS h (g_goto hm hto g3) hR ⟨hfb.todo _, fun _ => g4⟩ hc (fun b q hq => bk b q (g5 b q hq))
          · rename_i hk'
            exact leaveK_ok hT hS h hR hfb hc ⟨_, hto, g2 hk'⟩
        · rename_i id ops
          have hend := runOps_ok hT hS (K := K) ops.toList 0 tm ds cm m L rfl h e w { fr with todo := .inRegion ops (List.range ops.size) :: K } cs hR (hfb.todo _) hc (by simp [List.range_eq_range'])
          exact (RegEnd.ends hS h2 hR bk hend).after (.one (step_lone_go (g_region hm hto))) (Ext.refl m e) (Nat.le_refl _) (Keep.refl F w) (CsAfter.refl hc) (fun _ _ h => h) (fun _ h => h)
        · rename_i id ops
          split at h
          · rename_i pl hpl
            have hw : Keep F w { w with drawn := w.drawn + 1 } := ⟨fun _ _ => rfl, Nat.le_refl _, rfl, rfl, rfl⟩
            obtain ⟨tm', cm', m', L1, e', w', fr', cs', j1, j2, j3, j4, j5, j6, j7, j8, j9, j10, j11⟩ := hP _ _ ds _ _ _ _ _ _ hpl h e { w with drawn := w.drawn + 1 } { fr with todo := .inRegion ops (Region.schedule (P.follows .mixedOrders) ops (w.tape w.drawn (.order fr.fn id))) :: K } cs K _ (hR.of_heap rfl) (hfb.todo _) hc rfl
            exact (hS _ _ _ _ _ _ _ _ j1 e' w' fr' cs' j6 ⟨j4, fun _ => by rw [j5]; exact h2.mono (hR.le j7)⟩ j11).after ((Steps.one (step_lone_go (g_region_draw hm hto))).trans j3) j7 j8 (hw.trans j9) j10 bk j2
          · cases h
        · rename_i f ps asg bd
          dsimp only at h
          split at h
          · rename_i fn first cap hfx
            have hfv := evalO_ok hR hfb.tmps _ _ hfx
            have hrd := hfb.rnd
            split at h
            · rename_i hrnd
              rw [hrnd] at hrd
              obtain ⟨m1, k1, k2, k3, k4⟩ := newBlkK_some h
              obtain ⟨a1, a2, a3⟩ := hR.alloc (.defs (some [])) (.deferred (some [])) 0 rfl k2 k3 k4 ⟨[], .nil, by simp⟩
              refine rangeFunc_ok hT hS (q := ⟨w.heap.size, 0, 0⟩) (mark := [{ target := .collected w.heap.size, args := #[] }]) hR hfb hc hto h2 bk hfv a1 a2 (by omega) a3 (by simp [Env.add]) ?_ ?_ k1
              · exact .cons ⟨⟨w.heap.size, 0, 0⟩, by simp [Env.add], rfl⟩ (hfb.defers.mono (hR.le a2))
              · rw [hrd]
                simp [Instr.enterLoop]
            · rename_i id hrnd
              rw [hrnd] at hrd
              obtain ⟨p, hp, hrd⟩ := hrd
              split at h
              · rename_i l hb
                rw [AMem.get_blks] at hb
                obtain ⟨q, arr, hq, ht, hobj⟩ := hR.real _ _ _ hb hp
                refine rangeFunc_ok hT hS (q := q) (mark := []) hR hfb hc hto h2 bk hfv hR (Ext.refl m e) (Nat.le_refl _) (Keep.refl F w) hq (by simpa using hfb.defers) ?_ h
                rw [hrd]
                simp [Instr.enterLoop, Instr.getLoop, run_getObj hobj (by simp)]
              · cases h
          · cases h
        · cases h
      · simp only [ItemRel] at h1
        subst h1
        exact Ends.silent hS h (g_inBlock hm hto) hR ⟨hfb.todo _, fun _ => h2⟩ hc (back (by simp))
      · simp only [ItemRel] at h1
        subst h1
        exact Ends.silent hS h (g_inScope hm hto) hR ⟨hfb.todo _, fun _ => h2⟩ hc (back (by simp))
      · rename_i b
        simp only [ItemRel] at h1
        subst h1
        exact (hL _ _ _ _ _ _ _ _ h e w _ cs K (.inLoop b :: k) hR (hfb.todo _) hc rfl h2 (back (by simp))).after (.one (step_lone_go (g_inLoop hm hto))) (Ext.refl m e) (Nat.le_refl _) (Keep.refl F w) (CsAfter.refl hc) (fun _ _ h => h) (fun _ h => h)
      · rename_i b
        simp only [ItemRel] at h1
        subst h1
        cases h
        exact ⟨_, List.mem_singleton.2 rfl, e, w, fr, cs, Steps.refl _ _, Ext.refl m e, Nat.le_refl _, CsAfter.refl hc, hc, hR, Keep.refl F w, List.suffix_refl _, hfb, fun _ => by rw [hto]; exact .cons rfl h2⟩
      · simp only [ItemRel] at h1
        subst h1
        split at h
        · rename_i id hrnd
          have hrd := hfb.rnd
          rw [hrnd] at hrd
          obtain ⟨p, hp, hrd⟩ := hrd
          split at h
          · rename_i l hb
            rw [AMem.get_blks] at hb
            obtain ⟨q, arr, hq, ht, hobj⟩ := hR.real _ _ _ hb hp
            split at h
            · rename_i hst
              obtain ⟨m', k1, k2, k3, k4⟩ := setBlkK_some h
              obtain ⟨b1, b2, b3⟩ := hR.setObj (P := P) (m' := m') (b1 := .loop ⟨.busy, l.pending, l.fn, l.tm, l.nt, l.params, l.assign, l.body, l.defers⟩)
                (ob' := .loop { state := .busy, pending := l.pending, fn := l.fn, tmps := arr, params := l.params.toArray, assign := l.assign, body := l.body, defers := q.blk }) hb hp rfl rfl rfl rfl k2 k3 k4 hobj (by simp) (fun heap hh => ⟨q, arr, hq, ht, hh⟩)
              refine (hS _ _ _ _ _ _ _ _ k1 e _ _ cs b2 ⟨hfb.todo _, fun _ => h2⟩ hc).after (.one (step_lone_go (g_beginRound hm hto hrd ?_))) (Ext.refl m e) (by omega) b3 (CsAfter.refl hc) (back (by simp)) (fun _ h => h)
              unfold Instr.beginRound Instr.getLoop
              simp only [Sem.run_bind, run_getObj hobj (by simp), Result.andThen_ok, Sem.run_pure, b1, hst]
            · cases h
          · cases h
        · cases h
      · rename_i id
        obtain ⟨p, hp, rfl⟩ := h1
        split at h
        · rename_i l hb
          rw [AMem.get_blks] at hb
          obtain ⟨q, arr, hq, ht, hobj⟩ := hR.real _ _ _ hb hp
          split at h
          · cases h
          · rename_i hst
            obtain ⟨m', k1, k2, k3, k4⟩ := setBlkK_some h
            obtain ⟨b1, b2, b3⟩ := hR.setObj (P := P) (m' := m') (b1 := .loop ⟨.exhausted, l.pending, l.fn, l.tm, l.nt, l.params, l.assign, l.body, l.defers⟩)
              (ob' := .loop { state := .exhausted, pending := l.pending, fn := l.fn, tmps := arr, params := l.params.toArray, assign := l.assign, body := l.body, defers := q.blk }) hb hp rfl rfl rfl rfl k2 k3 k4 hobj (by simp) (fun heap hh => ⟨q, arr, hq, ht, hh⟩)
            have hend : (Instr.endLoop p.blk).run P w = .ok l.pending { w with heap := w.heap.setIfInBounds p.blk (.loop { state := .exhausted, pending := l.pending, fn := l.fn, tmps := arr, params := l.params.toArray, assign := l.assign, body := l.body, defers := q.blk }) } := by
              have hsb : l.state ≠ .busy := fun hl => hst hl
              unfold Instr.endLoop Instr.getLoop
              simp [run_getObj hobj (by simp), hsb, b1]
            have hst2 := g_endRange (P := P) (cs := cs) hm hto hend
            split at k1
            · rename_i hpn
              rw [show (l.pending.map Item.code).toList ++ K = K from by rw [hpn]; rfl] at hst2
              exact (hS _ _ _ _ _ _ _ _ k1 e _ _ cs b2 ⟨hfb.todo K, fun _ => h2⟩ hc).after (.one (step_lone_go hst2)) (Ext.refl m e) (by omega) b3 (CsAfter.refl hc) (back (by simp)) (fun _ h => h)
            · rename_i j hpn
              rw [show (l.pending.map Item.code).toList ++ K = .code j :: K from by rw [hpn]; rfl] at hst2
              exact (hS _ _ _ _ _ _ _ _ k1 e _ _ cs b2 ⟨hfb.todo (.code j :: K), fun _ => .cons rfl h2⟩ hc).after (.one (step_lone_go hst2)) (Ext.refl m e) (by omega) b3 (CsAfter.refl hc) (fun b q hq => back (by simp) b q (stop_cons (by simp) hq)) (fun _ h => h)
        · cases h
  · -- returning
    split at h
    · split at h
      · rename_i v hv
        cases h
        obtain ⟨fn, V, g1, g2, g3⟩ := tellRes_ok hT hR hfb.tmps hv
        have hm := hfb.mode
        simp only [ModeRel] at hm
        have hd : fr.defers = [] := by
          have := hfb.defers
          generalize fr.defers = l at this
          cases this; rfl
        have hpf : P.funcs[fr.fn]? = some fn := by rw [hfb.fn]; exact g1
        refine ⟨_, List.mem_singleton.2 rfl, e, w, fr, cs, Steps.refl _ _, Ext.refl m e, Nat.le_refl _, CsAfter.refl hc, hc, V, w, g2, hR, Keep.refl F w, hfb.kind, ?_, fun _ => ⟨rfl, hfb.fn, hm, hd, fn, hpf, g3⟩⟩
        simp [stepG, gAt, hm, unwind, hd, hpf, g3]
      · cases h
    · exact unwindK_ok hT hS h hR hfb hc (by simp)
  · -- panicking
    rename_i ch
    split at h
    · split at h
      · rename_i fn hfn
        cases h
        have hm := hfb.mode
        obtain ⟨C, hC, hm⟩ := hm
        have hd : fr.defers = [] := by
          have := hfb.defers
          generalize fr.defers = l at this
          cases this; rfl
        exact ⟨_, List.mem_singleton.2 rfl, e, w, fr, cs, Steps.refl _ _, Ext.refl m e, Nat.le_refl _, CsAfter.refl hc, hc, hR, Keep.refl F w, hfb.fn, hd, ⟨C, hC, hm⟩, fn, by rw [hfb.fn]; exact hT.fn _ _ hfn⟩
      · cases h
    · exact unwindK_ok hT hS h hR hfb hc (by simp)
end
end Go.Proofs.YtplgnjpeikamhaaGreatDoor.Xec

namespace Go.Proofs.YtplgnjpeikamhaaGreatDoor.Xec
variable {α β : Type}

/-! ### What an operation looks at -/
theorem evs_congr {ev ev' : Operand → Option AVal} : ∀ {l : List Operand}, (∀ x ∈ l, ev x = ev' x) → evs ev l = evs ev' l
  | [], _ => rfl
  | x :: l, h => by
    unfold evs
    rw [h x (by simp), evs_congr (fun y hy => h y (by simp [hy]))]

theorem evOpt_congr {ev ev' : Operand → Option AVal} {x : Option Operand} (h : ∀ y, x = some y → ev y = ev' y) : evOpt ev x = evOpt ev' x := by
  cases x with
  | none => rfl
  | some y => unfold evOpt; dsimp only; rw [h y rfl]

theorem fillParts_congr {place : Nat → Option (Nat × Nat)} {ev ev' : Operand → Option AVal} : ∀ {ps : List (Nat × Operand)}, (∀ p ∈ ps, ev p.2 = ev' p.2) → ∀ (t : Tr AVal) (k : Tr AVal → Option β), fillPartsK place ev ps t k = fillPartsK place ev' ps t k
  | [], _, t, k => rfl
  | (i, x) :: ps, h, t, k => by
    unfold fillPartsK
    rw [h (i, x) (by simp)]
    have ih := fun t' => fillParts_congr (place := place) (ev := ev) (ev' := ev') (ps := ps) (fun p hp => h p (by simp [hp])) t' k
    have : (fun (t' : Tr AVal) (_ : Nat) => fillPartsK place ev ps t' k) = fun t' _ => fillPartsK place ev' ps t' k := funext fun t' => funext fun _ => ih t'
    simp only [this]

theorem aplain_congr {T : Tab} {ev ev' : Operand → Option AVal} {o : Op} (h : ∀ x ∈ o.operands, ev x = ev' x) (m : AMem) (k : AVal → AMem → Option β) : aplain T ev o m k = aplain T ev' o m k := by
  have hf : ∀ (place : Nat → Option (Nat × Nat)) (ps : Array (Nat × Operand)), (∀ x ∈ (ps.toList.map (·.2)).toArray, ev x = ev' x) → ∀ (t : Tr AVal) (k : Tr AVal → Option β), fillPartsK place ev ps.toList t k = fillPartsK place ev' ps.toList t k := by
    intro place ps hp t k
    refine fillParts_congr (fun p hpm => hp _ ?_) t k
    simp only [List.mem_toArray, List.mem_map]
    exact ⟨p, hpm, rfl⟩
  cases o <;> (try rfl) <;> simp only [Op.operands, Call.operands] at h
  case build t ps => simp only [aplain, abuild, hf _ _ h]
  case buildSlice t n ps => simp only [aplain, abuildSlice, hf _ _ h]
  case makeFunc fn a b =>
    have h1 : evs ev a.toList = evs ev' a.toList := evs_congr (fun x hx => h x (by simp; exact .inl (by simpa using hx)))
    have h2 : evs ev b.toList = evs ev' b.toList := evs_congr (fun x hx => h x (by simp; exact .inr (by simpa using hx)))
    simp only [aplain, h1, h2]
  case makeMap t r =>
    cases r with
    | none => rfl
    | some r => simp only [aplain, h r (by simp)]
  case slice t x lo hi mx =>
    have h1 := h x (by simp)
    have h2 : evOpt ev lo = evOpt ev' lo := evOpt_congr (fun y hy => h y (by simp [hy]))
    have h3 : evOpt ev hi = evOpt ev' hi := evOpt_congr (fun y hy => h y (by simp [hy]))
    have h4 : evOpt ev mx = evOpt ev' mx := evOpt_congr (fun y hy => h y (by simp [hy]))
    simp only [aplain, h1, h2, h3, h4]
  case call c =>
    obtain ⟨cal, args, ats⟩ := c
    cases cal with
    | builtin b =>
      have h1 : evs ev args.toList = evs ev' args.toList := evs_congr (fun x hx => h x (by simpa using hx))
      simp only [aplain, h1]
    | _ => rfl
  case pick c a b =>
    simp only [aplain]
    rw [h c (by simp)]
    split
    · rename_i t _
      cases t
      · simp only [cond_false, h b (by simp)]
      · simp only [cond_true, h a (by simp)]
    · rfl
  all_goals
    simp at h
    first
      | (simp only [aplain, h]; done)
      | (simp only [aplain, h]; rfl)
end Go.Proofs.YtplgnjpeikamhaaGreatDoor.Xec

namespace Go.Proofs.YtplgnjpeikamhaaGreatDoor.Xec
variable {α β : Type}

theorem aresolve_congr {T : Tab} {ev ev' : Operand → Option AVal} {c : Call} (h : ∀ x ∈ c.operands, ev x = ev' x) (m : AMem) (k : ACall → Option β) : aresolve T ev c m k = aresolve T ev' c m k := by
  obtain ⟨cal, args, ats⟩ := c
  simp only [Call.operands] at h
  have h1 : evs ev args.toList = evs ev' args.toList := evs_congr (fun x hx => h x (Array.mem_append.2 (.inr (by simpa using hx))))
  unfold aresolve
  dsimp only
  rw [h1]
  cases cal with
  | value f =>
    cases evs ev' args.toList with
    | none => rfl
    | some l => dsimp only; rw [h f (Array.mem_append.2 (.inl (by simp)))]
  | invoke r n =>
    cases evs ev' args.toList with
    | none => rfl
    | some l => dsimp only; rw [h r (Array.mem_append.2 (.inl (by simp)))]
  | builtin b => rfl

theorem adefer_congr {ev ev' : Operand → Option AVal} {c : Call} (h : ∀ x ∈ c.operands, ev x = ev' x) (k : ADef → Option β) : adefer ev c k = adefer ev' c k := by
  obtain ⟨cal, args, ats⟩ := c
  simp only [Call.operands] at h
  have h1 : evs ev args.toList = evs ev' args.toList := evs_congr (fun x hx => h x (Array.mem_append.2 (.inr (by simpa using hx))))
  unfold adefer
  dsimp only
  rw [h1]
  cases cal with
  | value f =>
    cases evs ev' args.toList with
    | none => rfl
    | some l => dsimp only; rw [h f (Array.mem_append.2 (.inl (by simp)))]
  | invoke r n =>
    cases evs ev' args.toList with
    | none => rfl
    | some l => dsimp only; rw [h r (Array.mem_append.2 (.inl (by simp)))]
  | builtin b => rfl

theorem stepOp_congr {T : Tab} {run : Run} {c : Ctx} {o : Oper} {tm tm' : Tr AVal} (h : ∀ x ∈ o.op.operands, evalO T.ng tm x = evalO T.ng tm' x) (ds : List ADef) (cm : AMode) (m : AMem) (kv : AVal → List ADef → AMode → AMem → Option (List ARes)) (kp : List APan → AMem → Option (List ARes)) :
    stepOp T run c o tm ds cm m kv kp = stepOp T run c o tm' ds cm m kv kp := by
  obtain ⟨dst, op, ty, pos, after, guard⟩ := o
  dsimp only at h
  have hp := fun k => aplain_congr (T := T) (β := List ARes) h m k
  cases op with
  | call cl =>
    have hr := fun k => aresolve_congr (T := T) (β := List ARes) (c := cl) h m k
    unfold stepOp
    dsimp only
    simp only [hp, hr]
  | defer cl =>
    have hr := fun k => adefer_congr (β := List ARes) (c := cl) h k
    unfold stepOp
    dsimp only
    simp only [hr]
  | panic x =>
    simp [Op.operands] at h
    unfold stepOp
    dsimp only
    simp only [h]
  | next x s =>
    have h1 := h
    simp [Op.operands] at h1
    unfold stepOp
    cases s with
    | false => dsimp only; simp only [h1]
    | true => dsimp only; exact hp _
  | _ => unfold stepOp; dsimp only; exact hp _

/-! ### Pure operations -/
theorem loadVar_mono {T : Tab} {m m' : AMem} (hm : ∀ i b, m.blks.get i = some b → m'.blks.get i = some b) {t id off : Nat} {a : AVal} (h : loadVar T m t id off = some a) : loadVar T m' t id off = some a := by
  have hc : ∀ n l, m.cells id off n = some l → m'.cells id off n = some l := by
    intro n l hl
    obtain ⟨b1, n1, g1⟩ := m
    obtain ⟨b2, n2, g2⟩ := m'
    unfold AMem.cells AMem.get at hl ⊢
    dsimp only at hl hm ⊢
    split at hl
    · rename_i hb
      rw [hm _ _ hb]
      exact hl
    · cases hl
  unfold loadVar at h ⊢
  split at h
  · rename_i n ha hs
    split at h
    · rename_i l hl; rw [hc _ _ hl]; exact h
    · cases h
  · rename_i ha
    split at h
    · rename_i l hl; rw [hc _ _ hl]; exact h
    · cases h
  · cases h

theorem entsOf_mono {m m' : AMem} (hm : ∀ i b, m.blks.get i = some b → m'.blks.get i = some b) {x : AVal} {es : List AEnt} (h : entsOf m x = some es) : entsOf m' x = some es := by
  unfold entsOf at h ⊢
  split at h
  · exact h
  · split at h
    · rename_i hb
      rw [AMem.get_blks] at hb
      rw [AMem.get_blks, hm _ _ hb]
      exact h
    · cases h
  · cases h

theorem alookup_mono {T : Tab} {m m' : AMem} (hm : ∀ i b, m.blks.get i = some b → m'.blks.get i = some b) {t : TypeId} {x key : AVal} {ok : Bool} {k : AVal → Option β} {r : β} (h : alookup T t x key ok m k = some r) : alookup T t x key ok m' k = some r := by
  unfold alookup at h ⊢
  split at h
  · rename_i kt et hu
    cases hf : keyFits T kt key with
    | false => rw [hf] at h; cases h
    | true =>
      rw [hf] at h
      simp only [cond_true] at h ⊢
      split at h
      · rename_i es he
        rw [entsOf_mono hm he]
        exact h
      · cases h
  · cases h

theorem alen_mono {T : Tab} {m m' : AMem} (hm : ∀ i b, m.blks.get i = some b → m'.blks.get i = some b) {t : TypeId} {x : AVal} {k : AVal → Option β} {r : β} (h : alen T t x m k = some r) : alen T t x m' k = some r := by
  unfold alen at h ⊢
  split at h
  case h_7 =>
    split at h
    · rename_i hb
      rw [AMem.get_blks] at hb
      rw [AMem.get_blks, hm _ _ hb]
      exact h
    · cases h
  all_goals exact h

end Go.Proofs.YtplgnjpeikamhaaGreatDoor.Xec

namespace Go.Proofs.YtplgnjpeikamhaaGreatDoor.Xec
variable {α β : Type}

/-- a pure operation's step -/
def Pure1 (P : Program) (e : Env) (m : AMem) (w : World) (s : Sem Next) (k : AVal → AMem → Option β) (r : β) : Prop :=
  ∃ a, k a m = some r ∧ ∃ V, VRel e a V ∧ s.run P w = .ok (.value V) w

section
variable {P : Program} {T : Tab} (hT : TabOk P T) {F : Nat → Prop} {e : Env} {m : AMem} {w : World} (hR : Rel T F e m w)

theorem Pure1.val {s : Sem Next} {a : AVal} {v : Value} {k : AVal → AMem → Option β} {r : β} (hk : k a m = some r) (h : s.run P w = .ok (.value v) w) (hv : VRel e a v) : Pure1 P e m w s k r := ⟨a, hk, v, hv, h⟩
theorem Pure1.ofP {s : Sem Value} {s' : Sem Next} {k : AVal → AMem → Option β} {r : β} (h : ∃ a, k a m = some r ∧ ∃ v, VRel e a v ∧ s.run P w = .ok v w) (hs : s' = (s >>= fun v => Pure.pure (Next.value v))) : Pure1 P e m w s' k r := by
  obtain ⟨a, h1, v, h2, h3⟩ := h
  subst hs
  exact ⟨a, h1, v, h2, by simp [h3]⟩

include hT
theorem aconv_pure {s d : TypeId} {x : Operand} {v : AVal} {V : Value} {k : AVal → AMem → Option β} {r : β} (hk : kindOf T (.convert s d x) = .pure) (h : aconv T s d v m k = some r) (hx : VRel e v V) : Pure1 P e m w (do Pure.pure (.value (← convert s d V))) k r := by
  have hd : ∃ kd, T.und d = some (.int kd) := by
    unfold kindOf at hk
    dsimp only at hk
    split at hk
    · exact ⟨_, ‹_›⟩
    · cases hk
  obtain ⟨kd0, hd0⟩ := hd
  unfold aconv at h
  rw [hd0] at h
  split at h
  · rename_i d1 kd kk n hs hd
    cases hd
    simp only [VRel] at hx; subst hx
    rw [intK_eq] at h
    exact Pure1.ofP ⟨_, h, _, VRel.rint .., by simp [convert, run_und hT hs, run_und hT hd0, Conv.intToInt]⟩ rfl
  · rename_i d1 kd j kk lo hi hs hd
    cases hd
    cases hk : decide (kd0 = kk) with
    | false => rw [hk] at h; cases h
    | true =>
      rw [hk] at h
      have := of_decide_eq_true hk
      subst this
      simp only [VRel] at hx
      obtain ⟨h1, n, rfl, h2, h3⟩ := hx
      exact Pure1.ofP ⟨_, h, .int kd0 n, by simp only [VRel]; exact ⟨h1, n, rfl, h2, h3⟩, by simp [convert, run_und hT hs, run_und hT hd0, Conv.intToInt, h3]⟩ rfl
  all_goals first | (cases h; done) | (rename_i hd; cases hd; done) | (rename_i hd _; cases hd; done) | (rename_i hd _ _; cases hd; done) | skip

include hR
theorem alen_pure {ats : Array TypeId} {ty t : TypeId} {x : AVal} {X : Value} (ha : ats[0]? = some t) (hx : VRel e x X) {k : AVal → Option β} {r : β} (h : alen T t x m k = some r) :
    ∃ a, k a = some r ∧ ∃ V, VRel e a V ∧ (Builtin.len_ ats ty #[X]).run P w = .ok V w := by
  unfold alen at h
  split at h
  · rename_i l hu
    simp only [lenK_eq, Nat.zero_add] at h
    simp only [VRel] at hx
    obtain ⟨rfl, _⟩ := hx
    exact ⟨_, h, .int .i64 l.length, by simp only [VRel]; rfl, by simp [Builtin.len_, ha, run_und hT hu, goInt, toBytes_size]⟩
  · rename_i n _ hu
    rw [natK_eq] at h
    exact ⟨_, h, .int .i64 n, by simp only [VRel]; rfl, by simp [Builtin.len_, ha, run_und hT hu, goInt]⟩
  · rename_i el id off n c hu
    simp only [VRel] at hx
    obtain ⟨p, cc, hp, hc, rfl⟩ := hx
    exact ⟨_, h, .int .i64 n, by simp only [VRel]; rfl, by simp [Builtin.len_, ha, run_und hT hu, goInt]⟩
  · rename_i el hu
    simp only [VRel] at hx
    subst hx
    exact ⟨_, h, .int .i64 0, by simp only [VRel]; rfl, by simp [Builtin.len_, ha, run_und hT hu, goInt]⟩
  · rename_i el id hu
    simp only [VRel] at hx
    obtain ⟨p, hp, rfl⟩ := hx
    exact ⟨_, h, .int .i64 0, by simp only [VRel]; rfl, by simp [Builtin.len_, ha, run_und hT hu, goInt]⟩
  · rename_i kt et hu
    simp only [VRel] at hx
    subst hx
    exact ⟨_, h, .int .i64 0, by simp only [VRel]; rfl, by simp [Builtin.len_, ha, run_und hT hu, goInt]⟩
  · rename_i kt et id hu
    split at h
    · rename_i es c hb
      simp only [lenK_eq, Nat.zero_add] at h
      simp only [VRel] at hx
      obtain ⟨p, hp, rfl⟩ := hx
      rw [AMem.get_blks] at hb
      obtain ⟨xs, h1, h2⟩ := hR.real _ _ _ hb hp
      have hl := h2.length
      simp only [Array.length_toList] at hl
      exact ⟨_, h, .int .i64 es.length, by simp only [VRel]; rfl, by simp [Builtin.len_, ha, run_und hT hu, goInt, run_getObj h1, hl]⟩
    · cases h
  · cases h

theorem abuiltin_pure {b : Builtin} {ats : Array TypeId} {ty : TypeId} {consts : Array Bool} {args : List AVal} {Args : List Value} {os : Array Operand} (hk : kindOf T (.call { callee := .builtin b, args := os, argTypes := ats }) = .pure) (hv : VRels e args Args) {k : AVal → AMem → Option β} {r : β}
    (h : abuiltin T b ats args m k = some r) {s : Sem Next} (hs : s = builtin b ats ty consts Args.toArray) : Pure1 P e m w s k r := by
  subst hs
  unfold abuiltin at h
  split at h
  · cases hk
  · cases hk
  · rename_i t l x hat
    have ha : ats[0]? = some t := by rw [← Array.getElem?_toList, hat]; rfl
    obtain ⟨X, r1, rfl, hx, hv⟩ := hv.cons
    obtain rfl := hv.nil
    exact Pure1.ofP (alen_pure hT hR (ty := ty) ha hx h) rfl
  · rename_i t l id off len c hat
    have ha : ats[0]? = some t := by rw [← Array.getElem?_toList, hat]; rfl
    obtain ⟨X, r1, rfl, hx, hv⟩ := hv.cons
    obtain rfl := hv.nil
    split at h
    · rename_i el hu
      simp only [VRel] at hx
      obtain ⟨p, cc, hp, hc, rfl⟩ := hx
      obtain ⟨rfl, _⟩ := hc
      exact Pure1.ofP (s := Builtin.cap_ ats ty _) ⟨_, h, .int .i64 cc, by simp only [VRel]; rfl, by simp [Builtin.cap_, ha, run_und hT hu, goInt]⟩ rfl
    · cases h
  · cases hk
  · rename_i kd a k2 b
    obtain ⟨X, r1, rfl, hx, hv⟩ := hv.cons
    obtain ⟨Y, r2, rfl, hy, hv⟩ := hv.cons
    obtain rfl := hv.nil
    simp only [VRel] at hx hy
    subst hx; subst hy
    exact Pure1.ofP (s := Builtin.max_ ats ty _) ⟨_, h, .int kd (if b > a then b else a), by simp only [VRel, intLe_decide]; by_cases hh : b ≤ a <;> simp [hh] <;> omega, rfl⟩ rfl
  · rename_i kd a k2 b
    obtain ⟨X, r1, rfl, hx, hv⟩ := hv.cons
    obtain ⟨Y, r2, rfl, hy, hv⟩ := hv.cons
    obtain rfl := hv.nil
    simp only [VRel] at hx hy
    subst hx; subst hy
    exact Pure1.ofP (s := Builtin.min_ ats ty _) ⟨_, h, .int kd (if b < a then b else a), by simp only [VRel, intLe_decide]; by_cases hh : a ≤ b <;> simp [hh] <;> omega, rfl⟩ rfl
  all_goals first | (cases hk; done) | (cases h; done)

theorem aplain_pure {o : Oper} (hk : kindOf T o.op = .pure) {ev : Operand → Option AVal} {ρ : Operand → Value} (hev : ∀ x a, ev x = some a → VRel e a (ρ x)) {k : AVal → AMem → Option β} {r : β} (h : aplain T ev o.op m k = some r) :
    Pure1 P e m w (execOp ρ o) k r := by
  obtain ⟨dst, op, ty, pos, after, guard⟩ := o
  unfold aplain at h
  dsimp only at h
  split at h
  · -- move
    rename_i x
    cases hx : ev x with
    | none => rw [hx] at h; cases h
    | some v => rw [hx] at h; exact Pure1.val h rfl (hev _ _ hx)
  · -- assign
    rename_i x
    cases hx : ev x with
    | none => rw [hx] at h; cases h
    | some v => rw [hx] at h; exact Pure1.val h rfl (hev _ _ hx)
  · -- pick
    rename_i c a b
    split at h
    · rename_i t hc
      have hc := hev _ _ hc
      simp only [VRel] at hc
      cases hx : ev (bif t then a else b) with
      | none => rw [hx] at h; cases h
      | some v =>
        rw [hx] at h
        refine Pure1.val h ?_ (hev _ _ hx)
        simp only [execOp, hc]
        cases t <;> rfl
    · cases h
  · cases hk
  · cases hk
  · -- build
    rename_i t ps
    exact Pure1.ofP (abuild_ok hT hev h w) rfl
  · cases hk
  · cases hk
  · cases hk
  · -- load
    rename_i t a
    split at h
    · rename_i id off ha
      have hx := hev _ _ ha
      simp only [VRel] at hx
      obtain ⟨p, hp, hx⟩ := hx
      split at h
      · rename_i v hv
        obtain ⟨V, h1, h2⟩ := loadVar_ok hT hR hp hv
        refine Pure1.ofP (s := Instr.loadAt t (ρ a)) ⟨_, h, V, h2, ?_⟩ rfl
        rw [hx]
        simp [Instr.loadAt, Instr.sureAddr, h1]
      · cases h
    · cases h
  · cases hk
  · -- nilCheck
    rename_i x
    split at h
    · rename_i i o hx
      have hx := hev _ _ hx
      have hx2 := hx
      simp only [VRel] at hx
      obtain ⟨p, hp, hx⟩ := hx
      exact Pure1.val h (by simp only [execOp, hx]; rfl) hx2
    · rename_i t v hx
      have hx := hev _ _ hx
      have hx2 := hx
      simp only [VRel] at hx
      obtain ⟨u, hp, hx⟩ := hx
      exact Pure1.val h (by simp only [execOp, hx]; rfl) hx2
    · rename_i f a b hx
      have hx := hev _ _ hx
      have hx2 := hx
      simp only [VRel] at hx
      obtain ⟨_, fs, cs, _, _, hx⟩ := hx
      exact Pure1.val h (by simp only [execOp, hx]; rfl) hx2
    · rename_i i hx
      have hx := hev _ _ hx
      have hx2 := hx
      simp only [VRel] at hx
      obtain ⟨p, hp, hx⟩ := hx
      exact Pure1.val h (by simp only [execOp, hx]; rfl) hx2
    · cases h
  · -- binOp
    rename_i op t x y g
    split at h
    · rename_i a b ha hb
      obtain ⟨v, h1, V, h2, h3⟩ := abin_ok hT h (hev _ _ ha) (hev _ _ hb)
      exact Pure1.ofP (s := do eqGuard op t x y (ρ x) (ρ y); binOp op t (ρ x) (ρ y)) ⟨v, h1, V, h2, h3 w⟩ rfl
    · cases h
  · -- unOp
    rename_i op t x
    split at h
    · rename_i b hx
      have hx := hev _ _ hx
      simp only [VRel] at hx
      exact Pure1.val (v := .bool (!b)) h (by simp only [execOp, hx]; rfl) (by simp only [VRel])
    · rename_i kd n hx
      have hx := hev _ _ hx
      simp only [VRel] at hx
      unfold intRes at h
      rw [intK_eq] at h
      exact Pure1.val (v := .int kd (kd.wrap (0 - n))) h (by simp only [execOp, hx]; rfl) (by simp only [VRel])
    · rename_i kd n hx
      have hx := hev _ _ hx
      simp only [VRel] at hx
      unfold intRes at h
      rw [intK_eq] at h
      exact Pure1.val h (by simp only [execOp, hx]; rfl) (by simp only [VRel])
    · cases h
  · rename_i s d x
    split at h
    · rename_i v hv
      exact aconv_pure hT hk h (hev _ _ hv)
    · cases h
  · -- makeInterface
    rename_i t x
    split at h
    · cases h
    · rename_i d v hni hu hv
      refine Pure1.val (v := .iface t (ρ x)) h ?_ (by simp only [VRel]; exact ⟨_, hev _ _ hv, rfl⟩)
      simp only [execOp, Instr.makeInterface, Sem.run_bind, run_und hT hu]
      cases d <;> first | rfl | exact (hni _ rfl).elim
    · cases h
  · -- makeFunc
    rename_i fn a b
    split at h
    · cases h
    · rename_i l l2 hny h1 h2
      have r1 := evs_ok hev _ _ h1
      have r2 := evs_ok hev _ _ h2
      refine Pure1.val (v := .func _ (a.map ρ) (b.map ρ)) h rfl (by simp only [VRel]; exact ⟨fun q hq => hny q hq, _, _, r1, r2, by rw [map_arr, map_arr]⟩)
    · cases h
  · cases hk
  · cases hk
  · cases hk
  · -- slice
    rename_i t x lo hi mx
    cases hc : (mx.isSome && !hi.isSome) with
    | true => rw [hc] at h; cases h
    | false =>
      rw [hc] at h
      simp only [cond_false] at h
      split at h
      · rename_i a l hh c h1 h2 h3 h4
        obtain ⟨g1, g2⟩ := evOpt_ok hev h2
        obtain ⟨g3, g4⟩ := evOpt_ok hev h3
        obtain ⟨g5, g6⟩ := evOpt_ok hev h4
        obtain ⟨v, k1, V, k2, k3⟩ := aslice_ok hT (hev _ _ h1) g1 g3 g5 (fun hm => by
          intro hhn
          rw [← g6, ← g4, hhn] at hc
          cases c with
          | none => exact hm rfl
          | some c => simp at hc) h
        exact Pure1.ofP ⟨v, k1, V, k2, k3 w⟩ rfl
      · cases h
  · -- fieldAddr
    rename_i t x f
    split at h
    · rename_i fs id off hu hx
      have hx := hev _ _ hx
      simp only [VRel] at hx
      obtain ⟨p, hp, hx⟩ := hx
      split at h
      · rename_i fd hf
        split at h
        · rename_i q hsz
          rw [natK_eq] at h
          refine Pure1.val (v := .pointer (some ⟨p.blk, p.base + (off + fd.offset), none⟩)) h ?_ (by simp only [VRel]; exact ⟨p, hp, rfl⟩)
          rw [Array.getElem?_toList] at hf
          simp only [execOp, hx]
          simp [Instr.fieldAt, run_und hT hu, hf, Instr.sureAddr, fieldPlace, run_size hT hsz, add_none, Nat.add_assoc]
        · cases h
      · cases h
    · cases h
  · -- field
    rename_i t x f
    split at h
    · rename_i fs cs hu hx
      have hx := hev _ _ hx
      simp only [VRel] at hx
      obtain ⟨vs, hvs, hx⟩ := hx
      split at h
      · rename_i fd hf
        split at h
        · rename_i v hp
          obtain ⟨V, h1, h2⟩ := part_ok hT hvs hp w
          rw [Array.getElem?_toList] at hf
          refine Pure1.val (v := V) h ?_ h2
          simp only [execOp, hx]
          simp [Instr.field, run_und hT hu, hf, asAgg, h1]
        · cases h
      · cases h
    · cases h
  · -- indexAddr
    split at h
    · rename_i a b ha hb
      obtain ⟨v, k1, V, k2, k3⟩ := aindexAddr_ok hT h (hev _ _ ha) (hev _ _ hb)
      exact Pure1.ofP ⟨v, k1, V, k2, k3 w⟩ rfl
    · cases h
  · split at h
    · rename_i a b ha hb
      exact Pure1.ofP (aindex_ok hT h (hev _ _ ha) (hev _ _ hb) w) rfl
    · cases h
  · split at h
    · rename_i a b ha hb
      exact Pure1.ofP (alookup_ok hT hR h (hev _ _ ha) (hev _ _ hb)) rfl
    · cases h
  · cases hk
  · cases hk
  · cases hk
  · cases hk
  · cases hk
  · split at h
    · rename_i a ha
      exact Pure1.ofP (atypeAssert_ok hT h (hev _ _ ha) w) rfl
    · cases h
  · -- extract
    rename_i x i
    split at h
    · rename_i l hx
      have hx := hev _ _ hx
      simp only [VRel] at hx
      obtain ⟨vs, hvs, hx⟩ := hx
      split at h
      · rename_i v hi
        obtain ⟨V, h1, h2⟩ := hvs.get hi
        exact Pure1.val (v := V) h (by simp only [execOp, hx]; simp [Instr.extract, h1]) h2
      · cases h
    · cases h
  · rename_i b args ats
    split at h
    · rename_i l hl
      exact abuiltin_pure hT hR (ty := ty) (consts := args.map fun | .const _ => true | _ => false) hk (evs_ok hev _ _ hl) h (by rw [map_arr ρ]; rfl)
    · cases h
  · cases h
end
end Go.Proofs.YtplgnjpeikamhaaGreatDoor.Xec

namespace Go.Proofs.YtplgnjpeikamhaaGreatDoor.Xec
variable {α β : Type}

theorem abuiltin_mono {T : Tab} {b : Builtin} {ats : Array TypeId} {os : Array Operand} (hk : kindOf T (.call { callee := .builtin b, args := os, argTypes := ats }) = .pure) {m m' : AMem} (hm : ∀ i b, m.blks.get i = some b → m'.blks.get i = some b) {args : List AVal} {v : AVal}
    (h : abuiltin T b ats args m valK = some v) : abuiltin T b ats args m' valK = some v := by
  unfold abuiltin at h ⊢
  split at h
  · cases hk
  · cases hk
  · exact alen_mono (k := fun v => some v) hm h
  · exact h
  · cases hk
  · exact h
  · exact h
  all_goals first | (cases hk; done) | (cases h; done)

/-- an operation that reads alone: its value stands while blocks are but added -/
theorem pure_mono {T : Tab} {ev : Operand → Option AVal} {o : Op} (hk : kindOf T o = .pure) {m m' : AMem} (hm : ∀ i b, m.blks.get i = some b → m'.blks.get i = some b) {v : AVal} (h : aplain T ev o m valK = some v) :
    aplain T ev o m' valK = some v := by
  cases o
  case load t x =>
    unfold aplain at h ⊢
    dsimp only at h ⊢
    split at h
    · split at h
      · rename_i hv
        rw [loadVar_mono hm hv]
        exact h
      · cases h
    · cases h
  case lookup t x i ok =>
    unfold aplain at h ⊢
    dsimp only at h ⊢
    split at h
    · exact alookup_mono (k := fun v => some v) hm h
    · cases h
  case call c =>
    obtain ⟨cal, args, ats⟩ := c
    cases cal with
    | builtin b =>
      unfold aplain at h ⊢
      dsimp only at h ⊢
      split at h
      · exact abuiltin_mono hk hm h
      · cases h
    | _ => cases h
  case convert s d x =>
    have hd : ∃ kd, T.und d = some (.int kd) := by
      unfold kindOf at hk
      dsimp only at hk
      split at hk
      · exact ⟨_, ‹_›⟩
      · cases hk
    obtain ⟨kd0, hd0⟩ := hd
    unfold aplain at h ⊢
    dsimp only at h ⊢
    split at h
    · unfold aconv at h ⊢
      rw [hd0] at h ⊢
      split at h
      · exact h
      · exact h
      all_goals first | (cases h; done) | (rename_i hd; cases hd; done) | (rename_i hd _; cases hd; done) | (rename_i hd _ _; cases hd; done)
    · cases h
  all_goals first | exact h | (cases hk; done)

theorem all2_eq {f : AVal → AVal → Bool} (hf : ∀ a b, f a b = true → a = b) : ∀ {l r : List AVal}, beqV.all2 f l r = true → l = r
  | [], [], _ => rfl
  | [], _ :: _, h => by cases h
  | _ :: _, [], h => by cases h
  | a :: l, b :: r, h => by
    simp only [beqV.all2, Bool.and_eq_true] at h
    rw [hf _ _ h.1, all2_eq hf h.2]

theorem beqV_eq : ∀ (n : Nat) (a b : AVal), beqV n a b = true → a = b := by
  intro n
  induction n with
  | zero => intro a b h; cases h
  | succ n ih =>
    intro a b h
    unfold beqV at h
    split at h
    all_goals first
      | (cases h; done)
      | rfl
      | skip
    · rename_i a b; cases a <;> cases b <;> first | rfl | cases h
    · simp only [Bool.and_eq_true, decide_eq_true_eq] at h; rw [h.1, intEq_iff.1 h.2]
    · rw [natsEq_iff.1 h]
    · simp only [Bool.and_eq_true] at h; rw [beq_nat.1 h.1, beq_nat.1 h.2]
    · simp only [Bool.and_eq_true] at h; rw [beq_nat.1 h.1.1.1, beq_nat.1 h.1.1.2, beq_nat.1 h.1.2, beq_nat.1 h.2]
    · simp only [Bool.and_eq_true] at h; rw [beq_nat.1 h.1.1.1, beq_nat.1 h.1.1.2, beq_nat.1 h.1.2, beq_nat.1 h.2]
    · rw [beq_nat.1 h]
    · rw [beq_nat.1 h]
    · rw [beq_nat.1 h]
    · rw [beq_nat.1 h]
    · simp only [Bool.and_eq_true] at h; rw [beq_nat.1 h.1, ih _ _ h.2]
    · rw [all2_eq ih h]
    · rw [all2_eq ih h]
    · simp only [Bool.and_eq_true] at h; rw [beq_nat.1 h.1.1, all2_eq ih h.1.2, all2_eq ih h.2]
    · simp only [Bool.and_eq_true] at h; rw [eq_of_beq h.1.1, all2_eq ih h.1.2, all2_eq ih h.2]

theorem Tr.setK_total : ∀ (f : Nat) (t : Tr α) (n : Nat) (v : Option α) (k : Tr α → Option β), n < f → ∃ t', Tr.setK f t n v k = k t' := by
  intro f
  induction f with
  | zero => intro t n v k h; omega
  | succ f ih =>
    intro t n v k h
    cases n with
    | zero => cases t <;> exact ⟨_, rfl⟩
    | succ m =>
      have key : ∀ (l : Tr α) (x : Option α) (r : Tr α), ∃ t', (bif Nat.beq (m % 2) 0 then Tr.setK f l (m / 2) v fun l' => k (.nd l' x r) else Tr.setK f r (m / 2) v fun r' => k (.nd l x r')) = k t' := by
        intro l x r
        cases Nat.beq (m % 2) 0 with
        | true => obtain ⟨l', h'⟩ := ih l (m / 2) v (fun l' => k (.nd l' x r)) (by omega); exact ⟨_, h'⟩
        | false => obtain ⟨l', h'⟩ := ih r (m / 2) v (fun r' => k (.nd l x r')) (by omega); exact ⟨_, h'⟩
      cases t with
      | lf => exact key .lf none .lf
      | nd l x r => exact key l x r

theorem Tr.set_ex (t : Tr α) (n : Nat) (v : Option α) : ∃ t' : Tr α, ∀ i, t'.get i = if i = n then v else t.get i := by
  obtain ⟨t1, h1⟩ := Tr.setK_total (β := Tr α) (n + 1) t n v some (Nat.lt_succ_self n)
  obtain ⟨t2, h2, h3⟩ := Tr.setK_some _ _ _ _ _ _ h1
  exact ⟨t2, h3⟩
end Go.Proofs.YtplgnjpeikamhaaGreatDoor.Xec

namespace Go.Proofs.YtplgnjpeikamhaaGreatDoor.Xec
variable {α β : Type}

theorem fillParts_some {place : Nat → Option (Nat × Nat)} {ev : Operand → Option AVal} : ∀ (ps : List (Nat × Operand)) (t : Tr AVal) (k : Tr AVal → Option β) (r : β), fillPartsK place ev ps t k = some r → ∃ t', k t' = some r := by
  intro ps
  induction ps with
  | nil => intro t k r h; exact ⟨t, h⟩
  | cons q ps ih =>
    obtain ⟨i, x⟩ := q
    intro t k r h
    unfold fillPartsK at h
    split at h
    · rename_i off sz v _ _
      cases hb : (Nat.beq v.cells.length sz && v.live) with
      | false => rw [hb] at h; cases h
      | true =>
        rw [hb] at h
        obtain ⟨t1, h1, _⟩ := fillK_some _ _ _ _ _ h
        exact ih _ _ _ h1
    · cases h

/-- what a taken allocation is, whenever it is carried out -/
def AllocIs (P : Program) (T : Tab) (ev : Operand → Option AVal) (o : Oper) (id : Nat) (v : AVal) (b : ABlk) : Prop :=
  b.grp = none ∧ b.gb = 0 ∧ ∀ (ρ : Operand → Value) (e : Env) (w : World), (∀ x a, ev x = some a → VRel e a (ρ x)) → ∃ ob V, (execOp ρ o).run P w = .ok (.value V) { w with heap := w.heap.push ob } ∧
    ∀ e' : Env, e.le e' → e'.pl id = some ⟨w.heap.size, 0, 0⟩ → VRel e' v V ∧ ∀ heap : Array Obj, heap[w.heap.size]? = some ob → Real T e' heap ⟨w.heap.size, 0, 0⟩ b

section
variable {P : Program} {T : Tab} (hT : TabOk P T)

theorem row_spec {ev : Operand → Option AVal} {o : Oper} {m m' : AMem} {el : TypeId} {cells : List AVal} {v : AVal} {b : ABlk} (h : newRowK m el cells (fun id m' => pairK (.ptr id 0) m') = some (v, m')) (hb : m'.blks.get m.next = some b)
    (hrun : ∀ (ρ : Operand → Value) (e : Env) (w : World), (∀ x a, ev x = some a → VRel e a (ρ x)) → ∃ Vs, VRels e cells Vs ∧ (execOp ρ o).run P w = .ok (.value (.pointer (some ⟨w.heap.size, 0, none⟩))) { w with heap := w.heap.push (.cells Vs.toArray el) }) :
    m'.next = m.next + 1 ∧ m'.grps = m.grps ∧ (∀ i, m'.blks.get i = if i = m.next then some b else m.blks.get i) ∧ AllocIs P T ev o m.next v b := by
  unfold newRowK at h
  obtain ⟨t, h1, ht⟩ := fillK_some _ _ _ _ _ h
  obtain ⟨m1, h2, hn, hg, hget⟩ := newBlkK_some h1
  cases h2
  have hbe : b = .row el none 0 0 false true (0 + cells.length) t := by
    rw [hget] at hb
    simpa using hb.symm
  refine ⟨hn, hg, fun i => by rw [hget, hbe], by rw [hbe]; rfl, by rw [hbe]; rfl, fun ρ e w hev => ?_⟩
  obtain ⟨Vs, hv, hr⟩ := hrun ρ e w hev
  refine ⟨_, _, hr, fun e' hle hp => ⟨by simp only [VRel]; exact ⟨_, hp, rfl⟩, fun heap hh => ?_⟩⟩
  have := newRow_real (T := T) (e := e') el cells Vs [] (hv.mono hle) t ht false true (0, 0) 0 (.inl rfl) (fun s _ => by omega) (fun _ => rfl) heap w.heap.size (by simpa using hh)
  rw [hbe]
  simpa using this

include hT
theorem alloc_spec {o : Oper} (hk : kindOf T o.op = .alloc) {ev : Operand → Option AVal} {m m' : AMem} {v : AVal} {b : ABlk} (h : aplain T ev o.op m pairK = some (v, m')) (hb : m'.blks.get m.next = some b) :
    m'.next = m.next + 1 ∧ m'.grps = m.grps ∧ (∀ i, m'.blks.get i = if i = m.next then some b else m.blks.get i) ∧ AllocIs P T ev o m.next v b := by
  obtain ⟨dst, op, ty, pos, after, guard⟩ := o
  dsimp only at hk h
  cases op
  case alloc el =>
    unfold aplain at h
    dsimp only at h
    split at h
    · rename_i z hz
      refine row_spec h hb (fun ρ e w hev => ?_)
      obtain ⟨Z, hZ, hzr, hl⟩ := run_zero hT hz w
      refine ⟨Z.cells.toList, (hzr e).cells' hl, ?_⟩
      show (do Pure.pure (Next.value (← Instr.alloc el true (.tuple #[]))) : Sem Next).run P w = _
      simp [Instr.alloc, hZ, newVar, newRow]
    · cases h
  case box el x =>
    unfold aplain at h
    dsimp only at h
    split at h
    · rename_i a ha
      cases hl : a.live with
      | false => rw [hl] at h; cases h
      | true =>
        rw [hl] at h
        refine row_spec h hb (fun ρ e w hev => ⟨(ρ x).cells.toList, (hev _ _ ha).cells' hl, ?_⟩)
        show (do Pure.pure (Next.value (← Instr.box el (ρ x))) : Sem Next).run P w = _
        simp [Instr.box, newVar, newRow]
    · cases h
  case makeMap t r =>
    have fin : (newBlkK m (.map [] 0) fun id m' => pairK (.map id) m') = some (v, m') → (∀ (ρ : Operand → Value) (e : Env) (w : World), (∀ x a, ev x = some a → VRel e a (ρ x)) → (execOp ρ ⟨dst, .makeMap t r, ty, pos, after, guard⟩).run P w = .ok (.value (.map (some w.heap.size))) (w.alloc (.map #[] 0))) →
        m'.next = m.next + 1 ∧ m'.grps = m.grps ∧ (∀ i, m'.blks.get i = if i = m.next then some b else m.blks.get i) ∧ AllocIs P T ev ⟨dst, .makeMap t r, ty, pos, after, guard⟩ m.next v b := by
      intro h hrun
      obtain ⟨m1, h2, hn, hg, hget⟩ := newBlkK_some h
      cases h2
      have hbe : b = .map [] 0 := by rw [hget] at hb; simpa using hb.symm
      refine ⟨hn, hg, fun i => by rw [hget, hbe], by rw [hbe]; rfl, by rw [hbe]; rfl, fun ρ e w hev => ⟨_, _, hrun ρ e w hev, fun e' hle hp => ⟨by simp only [VRel]; exact ⟨_, hp, rfl⟩, fun heap hh => ?_⟩⟩⟩
      rw [hbe]
      exact ⟨#[], hh, .nil⟩
    cases r with
    | none =>
      refine fin h (fun ρ e w hev => ?_)
      show (do Pure.pure (Next.value (← Instr.makeMap t none)) : Sem Next).run P w = _
      simp [Instr.makeMap]
    | some x =>
      unfold aplain at h
      dsimp only at h
      split at h
      · rename_i kt et kd n hu hx
        refine fin h (fun ρ e w hev => ?_)
        have hx := hev _ _ hx
        simp only [VRel] at hx
        show (do Pure.pure (Next.value (← Instr.makeMap t (some (ρ x)))) : Sem Next).run P w = _
        rw [hx]
        simp [Instr.makeMap, run_und hT hu, asInt, asIntOf]
      · cases h
  case buildSlice t len ps =>
    unfold aplain abuildSlice at h
    dsimp only at h
    split at h
    · rename_i el hu
      split at h
      · rename_i s z hs hz
        cases hc : (Nat.ble (len * s) 65536 && Nat.beq z.cells.length s && fitsIn (fun i => some (i * s, s)) (len * s) ps.toList && !Nat.beq s 0) with
        | false => rw [hc] at h; cases h
        | true =>
          rw [hc] at h
          simp only [cond_true] at h
          simp only [Bool.and_eq_true, Bool.not_eq_true'] at hc
          obtain ⟨⟨⟨hc1, hc2⟩, hc3⟩, hc4⟩ := hc
          have hc1 := ble_nat.1 hc1
          have hc2 := beq_nat.1 hc2
          have hc4 := beq_nat_false.1 hc4
          obtain ⟨t0, h1, ht0⟩ := repK_some _ _ _ _ _ _ h
          obtain ⟨t1, h2⟩ := fillParts_some _ _ _ _ h1
          rw [natK_eq] at h2
          obtain ⟨m1, h3, hn, hg, hget⟩ := newBlkK_some h2
          cases h3
          have hbe : b = .row el none 0 0 false true (len * s) t1 := by rw [hget] at hb; simpa using hb.symm
          refine ⟨hn, hg, fun i => by rw [hget, hbe], by rw [hbe]; rfl, by rw [hbe]; rfl, fun ρ e w hev => ?_⟩
          obtain ⟨Z, hZ, hzr, hl⟩ := run_zero hT hz w
          have hzc := (hzr e).cells' hl
          have hcr : CRel e t0 ((Array.range (len * z.cells.length)).map (Z.cells[· % Z.cells.size]!)) := CRel.of_rep hzc (by omega) ht0
          obtain ⟨t', cells', k1, k2, k3, k4⟩ := fillParts_ok hev _ t0 _ _ _ h1 hcr (by simpa [hc2] using hc3)
          rw [natK_eq] at k1
          obtain ⟨m2, k5, _, _, kget⟩ := newBlkK_some k1
          cases k5
          have hbe2 : b = .row el none 0 0 false true (len * s) t' := by rw [kget] at hb; simpa using hb.symm
          have hsz : cells'.size = len * s := by rw [k4]; simp [hc2]
          refine ⟨.cells cells' el, .slice (some ⟨w.heap.size, 0, none⟩) len len, ?_, fun e' hle hp => ⟨by simp only [VRel]; exact ⟨_, len, hp, ⟨rfl, Nat.le_refl _⟩, rfl⟩, fun heap hh => ?_⟩⟩
          · show (do Pure.pure (Next.value (← Instr.buildSlice t len (ps.map fun (i, x) => (i, ρ x)))) : Sem Next).run P w = _
            have hls : ¬ len * s > 16777216 := by omega
            unfold Instr.buildSlice
            simp only [Sem.run_bind, run_und hT hu, Result.andThen_ok, run_size hT hs]
            cases len with
            | zero =>
              have hr0 : ∀ f : Nat → Value, (Array.range 0).map f = #[] := fun f => by simp
              rw [Nat.zero_mul, hr0] at k2
              simp only [Nat.zero_mul, hr0]
              simp [k2, newRow]
            | succ n =>
              have h0 : (n + 1) * s ≠ 0 := Nat.mul_ne_zero (by omega) hc4
              rw [hc2] at k2
              simp [hls, h0, hZ, k2, newRow]
          · rw [hbe2]
            refine ⟨cells', (0, 0), hh, fun i hi => ?_, .inl rfl, by simp [hsz], fun s _ => by simp, fun _ => ⟨rfl, hsz⟩⟩
            obtain ⟨a, v, g1, g2, g3⟩ := k3 i (by omega)
            exact ⟨a, v, g1, by simpa using g2, g3.mono hle⟩
      · cases h
    · cases h
  case convert s d x => unfold kindOf at hk; dsimp only at hk; split at hk <;> cases hk
  case call c =>
    obtain ⟨cal, args, ats⟩ := c
    cases cal with
    | builtin bb => cases bb <;> cases hk
    | _ => cases hk
  all_goals cases hk
end
end Go.Proofs.YtplgnjpeikamhaaGreatDoor.Xec
