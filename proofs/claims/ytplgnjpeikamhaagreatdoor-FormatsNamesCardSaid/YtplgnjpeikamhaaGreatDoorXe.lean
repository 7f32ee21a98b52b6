/- The executor's steps are the machine's own, part 4. -/
import Derived.Test.YtplgnjpeikamhaaGreatDoorXd
set_option linter.unusedSectionVars false
set_option linter.unnecessarySimpa false
set_option linter.unusedVariables false
set_option linter.unusedSimpArgs false
namespace Go.Proofs.YtplgnjpeikamhaaGreatDoor.Xec
variable {α β : Type}

section
variable {P : Program} {T : Tab} (hT : TabOk P T) {F : Nat → Prop} {e : Env} {m : AMem} {w : World} (hR : Rel T F e m w)

theorem map_arr {γ δ : Type} (f : γ → δ) (a : Array γ) : (a.toList.map f).toArray = a.map f := by rw [← Array.toList_map, Array.toArray_toList]

theorem evOpt_ok {ev : Operand → Option AVal} {ρ : Operand → Value} (hev : ∀ x a, ev x = some a → VRel e a (ρ x)) {x : Option Operand} {l : Option AVal} (h : evOpt ev x = some l) : OptRel e l (x.map ρ) ∧ (l.isSome = x.isSome) := by
  unfold evOpt at h
  cases x with
  | none => cases h; exact ⟨by simp [OptRel], rfl⟩
  | some x =>
    dsimp only at h
    cases hx : ev x with
    | none => rw [hx] at h; cases h
    | some v =>
      rw [hx] at h
      cases h
      exact ⟨by simpa [OptRel] using hev _ _ hx, rfl⟩

theorem DidN.val {s : Sem Next} {a : AVal} {v : Value} (hR : Rel T F e m w) (h : s.run P w = .ok (.value v) w) (hv : VRel e a v) : DidN P T F e m w s a m :=
  ⟨_, w, e, h, ⟨v, hv, .inl rfl⟩, hR, Ext.refl m e, Nat.le_refl _, Keep.refl F w⟩

theorem DidN.ofV {s : Sem Value} {s' : Sem Next} {a : AVal} {m' : AMem} (h : DidV P T F e m w s a m') (hs : s' = (s >>= fun v => Pure.pure (Next.value v))) : DidN P T F e m w s' a m' := by
  subst hs; exact h.next
theorem DidN.ofU {s : Sem Unit} {s' : Sem Next} {m' : AMem} (h : DidU P T F e m w s m') (hs : s' = (s >>= fun _ => Pure.pure Next.skip)) : DidN P T F e m w s' aundef m' := by
  subst hs; exact h.next

/-- the result of an operation that is looked at -/
def Goes (P : Program) (T : Tab) (F : Nat → Prop) (e : Env) (m : AMem) (w : World) (s : Sem Next) (k : AVal → AMem → Option β) (r : β) : Prop :=
  ∃ a m', k a m' = some r ∧ DidN P T F e m w s a m'

theorem Goes.val {s : Sem Next} {a : AVal} {v : Value} {k : AVal → AMem → Option β} {r : β} (hR : Rel T F e m w) (hk : k a m = some r) (h : s.run P w = .ok (.value v) w) (hv : VRel e a v) : Goes P T F e m w s k r :=
  ⟨a, m, hk, DidN.val hR h hv⟩
theorem Goes.ofV {s : Sem Value} {s' : Sem Next} {k : AVal → AMem → Option β} {r : β} (h : ∃ a m', k a m' = some r ∧ DidV P T F e m w s a m') (hs : s' = (s >>= fun v => Pure.pure (Next.value v))) : Goes P T F e m w s' k r := by
  obtain ⟨a, m', h1, h2⟩ := h; exact ⟨a, m', h1, .ofV h2 hs⟩
theorem Goes.ofP {s : Sem Value} {s' : Sem Next} {k : AVal → AMem → Option β} {r : β} (hR : Rel T F e m w) (h : ∃ a, k a m = some r ∧ ∃ v, VRel e a v ∧ s.run P w = .ok v w) (hs : s' = (s >>= fun v => Pure.pure (Next.value v))) : Goes P T F e m w s' k r := by
  obtain ⟨a, h1, v, h2, h3⟩ := h; exact ⟨a, m, h1, .ofV (DidV.pure hR h3 h2) hs⟩
theorem Goes.ofU {s : Sem Unit} {s' : Sem Next} {k : AVal → AMem → Option β} {r : β} (h : ∃ m', k aundef m' = some r ∧ DidU P T F e m w s m') (hs : s' = (s >>= fun _ => Pure.pure Next.skip)) : Goes P T F e m w s' k r := by
  obtain ⟨m', h1, h2⟩ := h; exact ⟨_, m', h1, .ofU h2 hs⟩

include hT in
theorem atypeAssert_ok {x : AVal} {X : Value} {xt t : TypeId} {ok : Bool} {k : AVal → Option β} {r : β} (h : atypeAssert T x t ok k = some r) (hx : VRel e x X) (w : World) :
    ∃ a, k a = some r ∧ ∃ v, VRel e a v ∧ (Instr.typeAssert X xt t ok).run P w = .ok v w := by
  unfold atypeAssert at h
  have zeroed : ∀ (want : Option AVal), want = T.zero t → (match want with
      | some z => k (.tup [z, .bool false])
      | none => none) = some r → ∃ a, k a = some r ∧ ∃ v, VRel e a v ∧ (do pure (.tuple #[← zeroValue t, .bool false]) : Sem Value).run P w = .ok v w := by
    intro want hw hh
    split at hh
    · rename_i z
      obtain ⟨Z, hZ, hzr, hl⟩ := run_zero hT hw.symm w
      refine ⟨_, hh, .tuple #[Z, .bool false], ?_, by simp [hZ]⟩
      simp only [VRel, VRels]
      exact ⟨[Z, .bool false], ⟨hzr e, rfl, trivial⟩, rfl⟩
    · cases hh
  have tupd : ∀ {a : AVal} {v : Value}, VRel e a v → VRel e (.tup [a, .bool true]) (.tuple #[v, .bool true]) := by
    intro a v hv
    simp only [VRel, VRels]
    exact ⟨[v, .bool true], ⟨hv, rfl, trivial⟩, rfl⟩
  split at h
  · rename_i ms hu
    simp only [VRel] at hx
    subst hx
    cases ok with
    | false => cases h
    | true =>
      obtain ⟨a, h1, v, h2, h3⟩ := zeroed _ rfl h
      refine ⟨a, h1, v, h2, ?_⟩
      simpa [Instr.typeAssert, run_und hT hu] using h3
  · rename_i want tt v hu
    have hx2 := hx
    simp only [VRel] at hx
    obtain ⟨u, hv, rfl⟩ := hx
    split at h
    · rename_i i hi
      split at h
      · rename_i hm
        cases ok with
        | false => exact ⟨_, h, _, hx2, by simp [Instr.typeAssert, run_und hT hu, run_info hT hi, hm]⟩
        | true => exact ⟨_, h, _, tupd hx2, by simp [Instr.typeAssert, run_und hT hu, run_info hT hi, hm]⟩
      · rename_i mm hm
        cases ok with
        | false => cases h
        | true =>
          obtain ⟨a, h1, v, h2, h3⟩ := zeroed _ rfl h
          refine ⟨a, h1, v, h2, ?_⟩
          simpa [Instr.typeAssert, run_und hT hu, run_info hT hi, hm] using h3
    · cases h
  · rename_i d hni hu
    simp only [VRel] at hx
    subst hx
    cases ok with
    | false => cases h
    | true =>
      obtain ⟨a, h1, v, h2, h3⟩ := zeroed _ rfl h
      refine ⟨a, h1, v, h2, ?_⟩
      cases d <;> first | (simpa [Instr.typeAssert, run_und hT hu] using h3) | exact (hni _ rfl).elim
  · rename_i d tt v hni hu
    simp only [VRel] at hx
    obtain ⟨u, hv, rfl⟩ := hx
    cases ht : Nat.beq tt t with
    | true =>
      rw [ht] at h
      have ht := beq_nat.1 ht
      cases ok with
      | false => exact ⟨_, h, u, hv, by cases d <;> first | (simp [Instr.typeAssert, run_und hT hu, ht]; done) | exact (hni _ rfl).elim⟩
      | true => exact ⟨_, h, _, tupd hv, by cases d <;> first | (simp [Instr.typeAssert, run_und hT hu, ht]; done) | exact (hni _ rfl).elim⟩
    | false =>
      rw [ht] at h
      have ht := beq_nat_false.1 ht
      cases ok with
      | false => cases h
      | true =>
        obtain ⟨a, h1, v, h2, h3⟩ := zeroed _ rfl h
        refine ⟨a, h1, v, h2, ?_⟩
        cases d <;> first | (simpa [Instr.typeAssert, run_und hT hu, ht] using h3) | exact (hni _ rfl).elim
  · cases h

include hT hR

omit hT in
theorem newRow_ok {el : TypeId} {cells : List AVal} {V : Value} (hv : VRels e cells V.cells.toList) {k : AVal → AMem → Option β} {r : β} (h : (newRowK m el cells fun id m' => k (.ptr id 0) m') = some r) {s : Sem Value}
    (hs : s.run P w = .ok (.pointer (some ⟨w.heap.size, 0, none⟩)) { w with heap := w.heap.push (.cells V.cells el) }) : ∃ a m', k a m' = some r ∧ DidV P T F e m w s a m' := by
  obtain ⟨m', h1, h2, h3, h4, h5⟩ := newRowK_ok hR hv h
  refine ⟨_, m', h1, _, _, _, hs, ?_, by simpa using h3, h4, by omega, by simpa using h5⟩
  simp only [VRel]
  exact ⟨⟨w.heap.size, 0, 0⟩, by simp [Env.add], rfl⟩

omit hT in
theorem makeMap_ok {k : AVal → AMem → Option β} {r : β} (h : (newBlkK m (.map [] 0) fun id m' => k (.map id) m') = some r) {s : Sem Value} (hs : s.run P w = .ok (.map (some w.heap.size)) (w.alloc (.map #[] 0))) :
    ∃ a m', k a m' = some r ∧ DidV P T F e m w s a m' := by
  obtain ⟨m', h2, hn, hg, hb⟩ := newBlkK_some h
  obtain ⟨a1, a2, a3⟩ := hR.alloc (.map [] 0) (.map #[] 0) 0 rfl hn hg hb ⟨#[], by simp, .nil⟩
  refine ⟨_, m', h2, _, _, _, hs, ?_, a1, a2, by omega, a3⟩
  simp only [VRel]
  exact ⟨⟨w.heap.size, 0, 0⟩, by simp [Env.add], rfl⟩

theorem aplain_ok {o : Oper} {ev : Operand → Option AVal} {ρ : Operand → Value} (hev : ∀ x a, ev x = some a → VRel e a (ρ x)) {k : AVal → AMem → Option β} {r : β} (h : aplain T ev o.op m k = some r) :
    Goes P T F e m w (execOp ρ o) k r := by
  obtain ⟨dst, op, ty, pos, after, guard⟩ := o
  unfold aplain at h
  dsimp only at h
  split at h
  · -- move
    rename_i x
    cases hx : ev x with
    | none => rw [hx] at h; cases h
    | some v => rw [hx] at h; exact .val hR h rfl (hev _ _ hx)
  · -- assign
    rename_i x
    cases hx : ev x with
    | none => rw [hx] at h; cases h
    | some v => rw [hx] at h; exact .val hR h rfl (hev _ _ hx)
  · -- pick
    rename_i c a b
    split at h
    · rename_i t hc
      have hc := hev _ _ hc
      simp only [VRel] at hc
      cases hx : ev (bif t then a else b) with
      | none => rw [hx] at h; cases h
      | some v =>
        rw [hx] at h
        refine .val hR h ?_ (hev _ _ hx)
        simp only [execOp, hc]
        cases t <;> rfl
    · cases h
  · -- alloc
    rename_i el
    split at h
    · rename_i z hz
      obtain ⟨Z, hZ, hzr, hl⟩ := run_zero hT hz w
      exact .ofV (newRow_ok hR ((hzr e).cells' hl) h (s := Instr.alloc el true (.tuple #[])) (by simp [Instr.alloc, hZ, newVar, newRow])) rfl
    · cases h
  · -- box
    rename_i el x
    cases hx : ev x with
    | none => rw [hx] at h; cases h
    | some v =>
      rw [hx] at h
      dsimp only at h
      cases hl : v.live with
      | false => rw [hl] at h; cases h
      | true =>
        rw [hl] at h
        exact .ofV (newRow_ok hR ((hev _ _ hx).cells' hl) h (s := Instr.box el (ρ x)) (by simp [Instr.box, newVar, newRow])) rfl
  · -- build
    rename_i t ps
    exact .ofP hR (abuild_ok hT hev h w) rfl
  · exact .ofV (abuildSlice_ok hT hR hev h) rfl
  · -- insert
    split at h
    · rename_i a b c ha hb hc
      exact .ofU (aupdate_ok hT hR h (hev _ _ ha) (hev _ _ hb) (hev _ _ hc)) rfl
    · cases h
  · split at h
    · rename_i a b c ha hb hc
      exact .ofU (aupdate_ok hT hR h (hev _ _ ha) (hev _ _ hb) (hev _ _ hc)) rfl
    · cases h
  · -- load
    rename_i t a
    split at h
    · rename_i id off ha
      have hx := hev _ _ ha
      simp only [VRel] at hx
      obtain ⟨p, hp, hx⟩ := hx
      split at h
      · rename_i v hv
        obtain ⟨V, h1, h2⟩ := loadVar_ok hT hR hp hv
        refine .ofP hR (s := Instr.loadAt t (ρ a)) ⟨_, h, V, h2, ?_⟩ rfl
        rw [hx]
        simp [Instr.loadAt, Instr.sureAddr, h1]
      · cases h
    · cases h
  · -- store
    rename_i t a x
    split at h
    · rename_i id off v ha hv
      have hx := hev _ _ ha
      simp only [VRel] at hx
      obtain ⟨p, hp, hx⟩ := hx
      obtain ⟨m', w', h1, h2, h3, h4, h5⟩ := storeVarK_ok hT hR hp (hev _ _ hv) h
      refine .ofU (s := Instr.storeAt t (ρ a) (ρ x)) ⟨m', h1, w', ?_, h3, h5, h4⟩ rfl
      rw [hx]
      simp [Instr.storeAt, Instr.sureAddr, h2]
    · cases h
  · -- nilCheck
    rename_i x
    split at h
    · rename_i i o hx
      have hx := hev _ _ hx
      have hx2 := hx
      simp only [VRel] at hx
      obtain ⟨p, hp, hx⟩ := hx
      exact .val hR h (by simp only [execOp, hx]; rfl) hx2
    · rename_i t v hx
      have hx := hev _ _ hx
      have hx2 := hx
      simp only [VRel] at hx
      obtain ⟨u, hp, hx⟩ := hx
      exact .val hR h (by simp only [execOp, hx]; rfl) hx2
    · rename_i f a b hx
      have hx := hev _ _ hx
      have hx2 := hx
      simp only [VRel] at hx
      obtain ⟨_, fs, cs, _, _, hx⟩ := hx
      exact .val hR h (by simp only [execOp, hx]; rfl) hx2
    · rename_i i hx
      have hx := hev _ _ hx
      have hx2 := hx
      simp only [VRel] at hx
      obtain ⟨p, hp, hx⟩ := hx
      exact .val hR h (by simp only [execOp, hx]; rfl) hx2
    · cases h
  · -- binOp
    rename_i op t x y g
    split at h
    · rename_i a b ha hb
      obtain ⟨v, h1, V, h2, h3⟩ := abin_ok hT h (hev _ _ ha) (hev _ _ hb)
      exact .ofP hR (s := do eqGuard op t x y (ρ x) (ρ y); binOp op t (ρ x) (ρ y)) ⟨v, h1, V, h2, h3 w⟩ rfl
    · cases h
  · -- unOp
    rename_i op t x
    split at h
    · rename_i b hx
      have hx := hev _ _ hx
      simp only [VRel] at hx
      exact .val hR (v := .bool (!b)) h (by simp only [execOp, hx]; rfl) (by simp only [VRel])
    · rename_i kd n hx
      have hx := hev _ _ hx
      simp only [VRel] at hx
      unfold intRes at h
      rw [intK_eq] at h
      exact .val hR (v := .int kd (kd.wrap (0 - n))) h (by simp only [execOp, hx]; rfl) (by simp only [VRel])
    · rename_i kd n hx
      have hx := hev _ _ hx
      simp only [VRel] at hx
      unfold intRes at h
      rw [intK_eq] at h
      exact .val hR h (by simp only [execOp, hx]; rfl) (by simp only [VRel])
    · cases h
  · -- convert
    rename_i s d x
    split at h
    · rename_i v hv
      exact .ofV (aconv_ok hT hR h (hev _ _ hv)) rfl
    · cases h
  · -- makeInterface
    rename_i t x
    split at h
    · cases h
    · rename_i d v hni hu hv
      refine .val hR (v := .iface t (ρ x)) h ?_ (by simp only [VRel]; exact ⟨_, hev _ _ hv, rfl⟩)
      simp only [execOp, Instr.makeInterface, Sem.run_bind, run_und hT hu]
      cases d <;> first | rfl | exact (hni _ rfl).elim
    · cases h
  · -- makeFunc
    rename_i fn a b
    split at h
    · cases h
    · rename_i l l2 hny h1 h2
      have r1 := evs_ok hev _ _ h1
      have r2 := evs_ok hev _ _ h2
      refine .val hR (v := .func _ (a.map ρ) (b.map ρ)) h rfl (by simp only [VRel]; exact ⟨fun q hq => hny q hq, _, _, r1, r2, by rw [map_arr, map_arr]⟩)
    · cases h
  · exact .ofV (makeMap_ok hR (s := Instr.makeMap _ none) h (by simp [Instr.makeMap])) rfl
  · rename_i t x
    split at h
    · rename_i kt et kd n hu hx
      have hx := hev _ _ hx
      simp only [VRel] at hx
      exact .ofV (makeMap_ok hR (s := Instr.makeMap t (some (ρ x))) h (by rw [hx]; simp [Instr.makeMap, run_und hT hu, asInt, asIntOf])) rfl
    · cases h
  · -- makeSlice
    split at h
    · rename_i a b ha hb
      exact .ofV (amakeSlice_ok hT hR (hev _ _ ha) (hev _ _ hb) h) rfl
    · cases h
  · -- slice
    rename_i t x lo hi mx
    cases hc : (mx.isSome && !hi.isSome) with
    | true => rw [hc] at h; cases h
    | false =>
      rw [hc] at h
      simp only [cond_false] at h
      split at h
      · rename_i a l hh c h1 h2 h3 h4
        obtain ⟨g1, g2⟩ := evOpt_ok hev h2
        obtain ⟨g3, g4⟩ := evOpt_ok hev h3
        obtain ⟨g5, g6⟩ := evOpt_ok hev h4
        obtain ⟨v, k1, V, k2, k3⟩ := aslice_ok hT (hev _ _ h1) g1 g3 g5 (fun hm => by
          intro hhn
          rw [← g6, ← g4, hhn] at hc
          cases c with
          | none => exact hm rfl
          | some c => simp at hc) h
        exact .ofP hR ⟨v, k1, V, k2, k3 w⟩ rfl
      · cases h
  · -- fieldAddr
    rename_i t x f
    split at h
    · rename_i fs id off hu hx
      have hx := hev _ _ hx
      simp only [VRel] at hx
      obtain ⟨p, hp, hx⟩ := hx
      split at h
      · rename_i fd hf
        split at h
        · rename_i q hsz
          rw [natK_eq] at h
          refine .val hR (v := .pointer (some ⟨p.blk, p.base + (off + fd.offset), none⟩)) h ?_ (by simp only [VRel]; exact ⟨p, hp, rfl⟩)
          rw [Array.getElem?_toList] at hf
          simp only [execOp, hx]
          simp [Instr.fieldAt, run_und hT hu, hf, Instr.sureAddr, fieldPlace, run_size hT hsz, add_none, Nat.add_assoc]
        · cases h
      · cases h
    · cases h
  · -- field
    rename_i t x f
    split at h
    · rename_i fs cs hu hx
      have hx := hev _ _ hx
      simp only [VRel] at hx
      obtain ⟨vs, hvs, hx⟩ := hx
      split at h
      · rename_i fd hf
        split at h
        · rename_i v hp
          obtain ⟨V, h1, h2⟩ := part_ok hT hvs hp w
          rw [Array.getElem?_toList] at hf
          refine .val hR (v := V) h ?_ h2
          simp only [execOp, hx]
          simp [Instr.field, run_und hT hu, hf, asAgg, h1]
        · cases h
      · cases h
    · cases h
  · -- indexAddr
    split at h
    · rename_i a b ha hb
      obtain ⟨v, k1, V, k2, k3⟩ := aindexAddr_ok hT h (hev _ _ ha) (hev _ _ hb)
      exact .ofP hR ⟨v, k1, V, k2, k3 w⟩ rfl
    · cases h
  · split at h
    · rename_i a b ha hb
      exact .ofP hR (aindex_ok hT h (hev _ _ ha) (hev _ _ hb) w) rfl
    · cases h
  · split at h
    · rename_i a b ha hb
      exact .ofP hR (alookup_ok hT hR h (hev _ _ ha) (hev _ _ hb)) rfl
    · cases h
  · split at h
    · rename_i a b ha hb
      exact .ofV (amapEntry_ok hT hR h (hev _ _ ha) (hev _ _ hb)) rfl
    · cases h
  · split at h
    · rename_i a b c ha hb hc
      exact .ofU (aentryStore_ok hR h (hev _ _ ha) (hev _ _ hb) (hev _ _ hc)) rfl
    · cases h
  · split at h
    · rename_i a ha
      exact .ofV (arange_ok hT hR h (hev _ _ ha)) rfl
    · cases h
  · -- next
    rename_i x s
    split at h
    · rename_i a ha
      cases s with
      | true => exact .ofV (anext_ok hR h (hev _ _ ha)) rfl
      | false =>
        unfold anext at h
        split at h
        · split at h
          · rename_i heq; cases heq
          · cases h
        · cases h
    · cases h
  · split at h
    · rename_i a ha
      exact .ofP hR (aentry_ok hR h (hev _ _ ha)) rfl
    · cases h
  · split at h
    · rename_i a ha
      exact .ofP hR (atypeAssert_ok hT h (hev _ _ ha) w) rfl
    · cases h
  · -- extract
    rename_i x i
    split at h
    · rename_i l hx
      have hx := hev _ _ hx
      simp only [VRel] at hx
      obtain ⟨vs, hvs, hx⟩ := hx
      split at h
      · rename_i v hi
        obtain ⟨V, h1, h2⟩ := hvs.get hi
        exact .val hR (v := V) h (by simp only [execOp, hx]; simp [Instr.extract, h1]) h2
      · cases h
    · cases h
  · -- builtin
    rename_i b args ats
    split at h
    · rename_i l hl
      obtain ⟨a, m', h1, h2⟩ := abuiltin_ok hT hR (ty := ty) (consts := args.map fun | .const _ => true | _ => false) (evs_ok hev _ _ hl) h
      refine ⟨a, m', h1, ?_⟩
      have : execOp ρ ⟨dst, .call { callee := .builtin b, args := args, argTypes := ats }, ty, pos, after, guard⟩ = builtin b ats ty (args.map fun | .const _ => true | _ => false) (args.map ρ) := rfl
      rw [this, ← map_arr ρ]
      exact h2
    · cases h
  · cases h
end
end Go.Proofs.YtplgnjpeikamhaaGreatDoor.Xec

namespace Go.Proofs.YtplgnjpeikamhaaGreatDoor.Xec
variable {α β : Type}

/-! ### The frames -/
def ItemRel (e : Env) : AItem → Item → Prop
  | .code c, i => i = .code c
  | .inBlock id, i => i = .inBlock id
  | .inLoop b, i => i = .inLoop b
  | .inScope b, i => i = .inScope b
  | .endRangeFunc id, i => ∃ p, e.pl id = some p ∧ i = .endRangeFunc p.blk
  | .beginRound, i => i = .beginRound
  | .stopLoop b, i => i = .inLoop b

inductive ItemsRel (e : Env) : List AItem → List Item → Prop where
  | nil : ItemsRel e [] []
  | cons {a : AItem} {i : Item} {l : List AItem} {k : List Item} : ItemRel e a i → ItemsRel e l k → ItemsRel e (a :: l) (i :: k)

theorem ItemRel.mono {e e' : Env} (h : e.le e') {a : AItem} {i : Item} (hr : ItemRel e a i) : ItemRel e' a i := by
  cases a <;> first | exact hr | skip
  obtain ⟨p, hp, hi⟩ := hr
  exact ⟨p, h.2 _ _ hp, hi⟩
theorem ItemsRel.mono {e e' : Env} (h : e.le e') {l : List AItem} {k : List Item} (hr : ItemsRel e l k) : ItemsRel e' l k := by
  induction hr with
  | nil => exact .nil
  | cons h1 _ ih => exact .cons (h1.mono h) ih

inductive ChainRel (e : Env) : List APan → List PanicEntry → Prop where
  | nil : ChainRel e [] []
  | cons {a : APan} {p : PanicEntry} {l : List APan} {k : List PanicEntry} : VRel e a.v p.v → p.recovered = a.recovered → p.goexit = false → ChainRel e l k → ChainRel e (a :: l) (p :: k)

theorem ChainRel.mono {e e' : Env} (h : e.le e') {l : List APan} {k : List PanicEntry} (hr : ChainRel e l k) : ChainRel e' l k := by
  induction hr with
  | nil => exact .nil
  | cons h1 h2 h3 _ ih => exact .cons (h1.mono h) h2 h3 ih
theorem ChainRel.append {e : Env} {l l' : List APan} {k k' : List PanicEntry} (h : ChainRel e l k) (h' : ChainRel e l' k') : ChainRel e (l ++ l') (k ++ k') := by
  induction h with
  | nil => exact h'
  | cons h1 h2 h3 _ ih => exact .cons h1 h2 h3 ih
theorem ChainRel.noexit {e : Env} {l : List APan} {k : List PanicEntry} (h : ChainRel e l k) : k.dropWhile (fun x => !x.goexit) = [] := by
  induction h with
  | nil => rfl
  | cons h1 h2 h3 _ ih => simp [List.dropWhile, h3, ih]

def ModeRel (e : Env) : AMode → FrameMode → Prop
  | .run, md => md = .run
  | .returning, md => md = .returning
  | .pan ch, md => ∃ C, ChainRel e ch C ∧ md = .panicking C

theorem ModeRel.mono {e e' : Env} (h : e.le e') {a : AMode} {md : FrameMode} (hr : ModeRel e a md) : ModeRel e' a md := by
  cases a with
  | run => exact hr
  | returning => exact hr
  | pan ch => obtain ⟨C, h1, h2⟩ := hr; exact ⟨C, h1.mono h, h2⟩

def Ctx.kind (c : Ctx) : CallKind := if c.dk then .deferred else .normal

/-- all of a frame but what it is about to do -/
structure FrB (e : Env) (c : Ctx) (tm : Tr AVal) (ds : List ADef) (md : AMode) (fr : Frame) : Prop where
  fn : fr.fn = c.fn
  tmps : TRel e tm c.nt fr.tmps
  defers : DefsRel e ds fr.defers
  mode : ModeRel e md fr.mode
  kind : fr.kind = c.kind
  rnd : match c.rnd with
    | none => fr.roundOf = none
    | some id => ∃ p, e.pl id = some p ∧ fr.roundOf = some p.blk

theorem FrB.mono {e e' : Env} (h : e.le e') {c : Ctx} {tm : Tr AVal} {ds : List ADef} {md : AMode} {fr : Frame} (hf : FrB e c tm ds md fr) : FrB e' c tm ds md fr :=
  ⟨hf.fn, hf.tmps.mono h, hf.defers.mono h, hf.mode.mono h, hf.kind, by
    have := hf.rnd
    cases hc : c.rnd with
    | none => rw [hc] at this; exact this
    | some id => rw [hc] at this; obtain ⟨p, hp, hr⟩ := this; exact ⟨p, h.2 _ _ hp, hr⟩⟩

structure FrRel (e : Env) (c : Ctx) (tm : Tr AVal) (todo : List AItem) (ds : List ADef) (md : AMode) (fr : Frame) : Prop where
  b : FrB e c tm ds md fr
  todo : md = .run → ItemsRel e todo fr.todo

/-- the callers -/
def CsRel (e : Env) (c : Ctx) (cm : AMode) (cs : List Frame) : Prop := c.dk = true → ∃ caller rest, cs = caller :: rest ∧ ModeRel e cm caller.mode

/-- what becomes of the callers -/
def CsAfter (c : Ctx) (cs cs' : List Frame) : Prop :=
  (c.dk = false → cs' = cs) ∧ (c.dk = true → ∃ caller rest md, cs = caller :: rest ∧ cs' = { caller with mode := md } :: rest ∧ (md = .run → caller.mode = .run))

theorem CsAfter.refl {e : Env} {c : Ctx} {cm : AMode} {cs : List Frame} (h : CsRel e c cm cs) : CsAfter c cs cs :=
  ⟨fun _ => rfl, fun hd => by obtain ⟨caller, rest, rfl, _⟩ := h hd; exact ⟨caller, rest, caller.mode, rfl, rfl, fun h => h⟩⟩
theorem CsAfter.trans {c : Ctx} {cs cs' cs'' : List Frame} (h : CsAfter c cs cs') (h' : CsAfter c cs' cs'') : CsAfter c cs cs'' := by
  refine ⟨fun hd => (h'.1 hd).trans (h.1 hd), fun hd => ?_⟩
  obtain ⟨caller, rest, md, h1, h2, h5⟩ := h.2 hd
  obtain ⟨caller', rest', md', h3, h4, h6⟩ := h'.2 hd
  rw [h2] at h3
  cases h3
  exact ⟨caller, rest, md', h1, h4, fun hh => h5 (h6 hh)⟩
theorem CsRel.mono {e e' : Env} (h : e.le e') {c : Ctx} {cm : AMode} {cs : List Frame} (hc : CsRel e c cm cs) : CsRel e' c cm cs := fun hd => by
  obtain ⟨caller, rest, h1, h2⟩ := hc hd
  exact ⟨caller, rest, h1, h2.mono h⟩

/-- the machine's own step of one goroutine -/
def gAt (fr : Frame) (cs : List Frame) : Goroutine := { frame := fr, callers := cs, status := .running, dying := none }

/-- a frame that has come to its end -/
def Leaves (P : Program) (T : Tab) (F : Nat → Prop) (c : Ctx) (todo : List AItem) (w0 : World) (e : Env) (r : ARes) (fr : Frame) (cs : List Frame) (w : World) : Prop :=
  match r.out with
  | .ret v => ∃ V w', VRel e v V ∧ Rel T F e r.mem w' ∧ Keep F w0 w' ∧ fr.kind = c.kind ∧
      (stepG P true (gAt fr cs) w).bare = (doReturn P true fr cs none V w').bare ∧
      (c.rnd = none → w' = w ∧ fr.fn = c.fn ∧ fr.mode = .returning ∧ fr.defers = [] ∧ ∃ fn, P.funcs[fr.fn]? = some fn ∧ (results fn fr.tmps).run P w = .ok V w)
  | .pan ch => Rel T F e r.mem w ∧ Keep F w0 w ∧ fr.fn = c.fn ∧ fr.defers = [] ∧ (∃ C, ChainRel e ch C ∧ fr.mode = .panicking C) ∧ ∃ fn, P.funcs[fr.fn]? = some fn
  | .atLoop tm ds b k => Rel T F e r.mem w ∧ Keep F w0 w ∧ (.stopLoop b :: k) <:+ todo ∧ FrRel e c tm (.inLoop b :: k) ds .run fr

def Ends (P : Program) (T : Tab) (F : Nat → Prop) (c : Ctx) (todo : List AItem) (cs : List Frame) (fr : Frame) (w : World) (e : Env) (m : AMem) (L : List ARes) : Prop :=
  ∃ r ∈ L, ∃ e' w' fr' cs', Steps P (lone fr cs w) (lone fr' cs' w') ∧ Ext m e e' ∧ m.next ≤ r.mem.next ∧ CsAfter c cs cs' ∧ CsRel e' c r.cm cs' ∧ Leaves P T F c todo w e' r fr' cs' w'

def Sound (P : Program) (T : Tab) (F : Nat → Prop) (run : Run) : Prop :=
  ∀ c tm todo ds md cm m L, run c tm todo ds md cm m = some L → ∀ e w fr cs, Rel T F e m w → FrRel e c tm todo ds md fr → CsRel e c cm cs → Ends P T F c todo cs fr w e m L

section
variable {P : Program} {T : Tab} {F : Nat → Prop}

theorem Leaves.keep {c : Ctx} {todo todo' : List AItem} {w0 w1 w : World} {e : Env} {r : ARes} {fr : Frame} {cs : List Frame} (hk : Keep F w0 w1) (ht : ∀ b k, (.stopLoop b :: k) <:+ todo' → (.stopLoop b :: k) <:+ todo)
    (h : Leaves P T F c todo' w1 e r fr cs w) : Leaves P T F c todo w0 e r fr cs w := by
  obtain ⟨out, cm, mem⟩ := r
  cases out with
  | ret v => obtain ⟨V, w', h1, h2, h3, h4⟩ := h; exact ⟨V, w', h1, h2, hk.trans h3, h4⟩
  | pan ch => obtain ⟨h1, h2, h3⟩ := h; exact ⟨h1, hk.trans h2, h3⟩
  | atLoop tm ds b k => obtain ⟨h1, h2, h3, h4⟩ := h; exact ⟨h1, hk.trans h2, ht _ _ h3, h4⟩

/-- some steps, then an end -/
theorem Ends.after {c : Ctx} {todo todo' : List AItem} {cs cs1 : List Frame} {fr fr1 : Frame} {w w1 : World} {e e1 : Env} {m m1 : AMem} {L L1 : List ARes}
    (hs : Steps P (lone fr cs w) (lone fr1 cs1 w1)) (hx : Ext m e e1) (hn : m.next ≤ m1.next) (hk : Keep F w w1) (hc : CsAfter c cs cs1) (ht : ∀ b k, (.stopLoop b :: k) <:+ todo' → (.stopLoop b :: k) <:+ todo) (hl : L1 ⊆ L)
    (h : Ends P T F c todo' cs1 fr1 w1 e1 m1 L1) : Ends P T F c todo cs fr w e m L := by
  obtain ⟨r, hr, e', w', fr', cs', h1, h2, h3, h4, h5, h6⟩ := h
  exact ⟨r, hl hr, e', w', fr', cs', hs.trans h1, hx.trans h2 hn, Nat.le_trans hn h3, hc.trans h4, h5, h6.keep hk ht⟩

theorem stop_cons {b : Code} {k l : List AItem} {a : AItem} (hna : ∀ b, a ≠ .stopLoop b) (h : (.stopLoop b :: k) <:+ a :: l) : (.stopLoop b :: k) <:+ l := by
  rcases List.suffix_cons_iff.1 h with h | h
  · cases h; exact (hna _ rfl).elim
  · exact h
theorem stop_nil {b : Code} {k : List AItem} (h : (.stopLoop b :: k) <:+ ([] : List AItem)) : False := by
  simp at h

/-- a silent step -/
theorem Ends.silent {c : Ctx} {tm : Tr AVal} {todo todo' : List AItem} {ds : List ADef} {md cm : AMode} {cs : List Frame} {fr fr1 : Frame} {w : World} {e : Env} {m : AMem} {L : List ARes} {run : Run} (hS : Sound P T F run)
    (h : run c tm todo' ds md cm m = some L) (hs : (stepG P true (gAt fr cs) w).bare = .go (gAt fr1 cs) w) (hR : Rel T F e m w) (hf : FrRel e c tm todo' ds md fr1) (hc : CsRel e c cm cs)
    (ht : ∀ b k, (.stopLoop b :: k) <:+ todo' → (.stopLoop b :: k) <:+ todo) : Ends P T F c todo cs fr w e m L :=
  (hS _ _ _ _ _ _ _ _ h e w fr1 cs hR hf hc).after (.one (step_lone_go hs)) (Ext.refl m e) (Nat.le_refl _) (Keep.refl F w) (CsAfter.refl hc) ht (fun _ h => h)

end
end Go.Proofs.YtplgnjpeikamhaaGreatDoor.Xec

namespace Go.Proofs.YtplgnjpeikamhaaGreatDoor.Xec
variable {α β : Type}

section
variable {P : Program} {fr : Frame} {cs : List Frame} {w : World} {k : List Item}

theorem g_skip (hm : fr.mode = .run) (ht : fr.todo = .code .skip :: k) : (stepG P true (gAt fr cs) w).bare = .go (gAt { fr with todo := k } cs) w := by simp [stepG, stepG.exec, gAt, hm, ht]
theorem g_label {l : Nat} (hm : fr.mode = .run) (ht : fr.todo = .code (.label l) :: k) : (stepG P true (gAt fr cs) w).bare = .go (gAt { fr with todo := k } cs) w := by simp [stepG, stepG.exec, gAt, hm, ht]
theorem g_inBlock {l : Nat} (hm : fr.mode = .run) (ht : fr.todo = .inBlock l :: k) : (stepG P true (gAt fr cs) w).bare = .go (gAt { fr with todo := k } cs) w := by simp [stepG, stepG.exec, gAt, hm, ht]
theorem g_inScope {l : Code} (hm : fr.mode = .run) (ht : fr.todo = .inScope l :: k) : (stepG P true (gAt fr cs) w).bare = .go (gAt { fr with todo := k } cs) w := by simp [stepG, stepG.exec, gAt, hm, ht]
theorem g_seq {a b : Code} (hm : fr.mode = .run) (ht : fr.todo = .code (.seq a b) :: k) : (stepG P true (gAt fr cs) w).bare = .go (gAt { fr with todo := .code a :: .code b :: k } cs) w := by simp [stepG, stepG.exec, gAt, hm, ht]
theorem g_cond {x : Operand} {t : Bool} {a b : Code} (hm : fr.mode = .run) (ht : fr.todo = .code (.cond x a b) :: k) (hx : fr.eval x = .bool t) : (stepG P true (gAt fr cs) w).bare = .go (gAt { fr with todo := .code (if t then a else b) :: k } cs) w := by simp [stepG, stepG.exec, gAt, hm, ht, hx]
theorem g_block {id : Nat} {b : Code} (hm : fr.mode = .run) (ht : fr.todo = .code (.block id b) :: k) : (stepG P true (gAt fr cs) w).bare = .go (gAt { fr with todo := .code b :: .inBlock id :: k } cs) w := by simp [stepG, stepG.exec, gAt, hm, ht]
theorem g_loop {b : Code} (hm : fr.mode = .run) (ht : fr.todo = .code (.loop b) :: k) : (stepG P true (gAt fr cs) w).bare = .go (gAt { fr with todo := .code b :: .inLoop b :: k } cs) w := by simp [stepG, stepG.exec, gAt, hm, ht]
theorem g_inLoop {b : Code} (hm : fr.mode = .run) (ht : fr.todo = .inLoop b :: k) : (stepG P true (gAt fr cs) w).bare = .go (gAt { fr with todo := .code b :: .inLoop b :: k } cs) w := by simp [stepG, stepG.exec, gAt, hm, ht]
theorem g_scope {b : Code} (hm : fr.mode = .run) (ht : fr.todo = .code (.scope b) :: k) : (stepG P true (gAt fr cs) w).bare = .go (gAt { fr with todo := .code b :: .inScope b :: k } cs) w := by simp [stepG, stepG.exec, gAt, hm, ht]
theorem g_exit {id : Nat} {k' : List Item} (hm : fr.mode = .run) (ht : fr.todo = .code (.exit id) :: k) (h : exitTo id k = some k') : (stepG P true (gAt fr cs) w).bare = .go (gAt { fr with todo := k' } cs) w := by simp [stepG, stepG.exec, gAt, hm, ht, h]
theorem g_goto {id : Nat} {k' : List Item} (hm : fr.mode = .run) (ht : fr.todo = .code (.goto id) :: k) (h : gotoIn id k = some k') : (stepG P true (gAt fr cs) w).bare = .go (gAt { fr with todo := k' } cs) w := by simp [stepG, stepG.exec, gAt, hm, ht, h]

/-- the jump that a frame's end asks -/
def asks (fr : Frame) : Option Code → Prop
  | none => fr.todo = []
  | some .ret => ∃ k, fr.todo = .code .ret :: k
  | some (.exit id) => ∃ k, fr.todo = .code (.exit id) :: k ∧ exitTo id k = none
  | some (.goto l) => ∃ k, fr.todo = .code (.goto l) :: k ∧ gotoIn l k = none
  | _ => False

theorem g_leave (hm : fr.mode = .run) {j : Option Code} (hj : j = none ∨ j = some .ret) (ha : asks fr j) (hr : fr.roundOf = none) : (stepG P true (gAt fr cs) w).bare = .go (gAt { fr with mode := .returning } cs) w := by
  rcases hj with rfl | rfl
  · simp only [asks] at ha; simp [stepG, stepG.exec, gAt, hm, ha, hr]
  · simp only [asks] at ha; obtain ⟨k, ha⟩ := ha; simp [stepG, stepG.exec, gAt, hm, ha, hr]

theorem g_leave_round (hm : fr.mode = .run) {j : Option Code} (ha : asks fr j) {l : Nat} (hr : fr.roundOf = some l) {v : Value} {w' : World} (he : (Instr.endRound l j).run P w = .ok v w') :
    (stepG P true (gAt fr cs) w).bare = (doReturn P true fr cs none v w').bare := by
  cases j with
  | none => simp only [asks] at ha; simp [stepG, stepG.exec, gAt, hm, ha, hr, he]
  | some j =>
    cases j <;> first
      | exact ha.elim
      | (simp only [asks] at ha; obtain ⟨k, ha, hn⟩ := ha; simp [stepG, stepG.exec, gAt, hm, ha, hn, hr, he])
      | (simp only [asks] at ha; obtain ⟨k, ha⟩ := ha; simp [stepG, stepG.exec, gAt, hm, ha, hr, he])

theorem g_endRange {l : Nat} {j : Option Code} {w' : World} (hm : fr.mode = .run) (ht : fr.todo = .endRangeFunc l :: k) (he : (Instr.endLoop l).run P w = .ok j w') :
    (stepG P true (gAt fr cs) w).bare = .go (gAt { fr with todo := (j.map Item.code).toList ++ k } cs) w' := by simp [stepG, stepG.exec, gAt, hm, ht, he]

theorem g_apply_value {s : Sem Next} {v : Value} {w' : World} (h : s.run P w = .ok (.value v) w') : (stepG.apply P true fr cs none s w).bare = .go (gAt (fr.finish v) cs) w' := by simp [stepG.apply, h, gAt]
theorem g_apply_skip {s : Sem Next} {w' : World} (h : s.run P w = .ok .skip w') : (stepG.apply P true fr cs none s w).bare = .go (gAt (fr.finish undef) cs) w' := by simp [stepG.apply, h, gAt]
theorem g_apply_enter {s : Sem Next} {f : FuncId} {args : Array Value} {w' : World} (hk : ∀ d r sv k, fr.todo ≠ .call d true r sv :: k) (h : s.run P w = .ok (.enter f args) w') :
    (stepG.apply P true fr cs none s w).bare = .go (gAt (Frame.enter P f args .normal) (fr :: cs)) w' := by
  have hkind : (match fr.todo with | .call _ true _ _ :: _ => CallKind.wrapped | _ => .normal) = .normal := by
    split
    · rename_i hh; exact (hk _ _ _ _ hh).elim
    · rfl
  simp [stepG.apply, h, gAt, hkind]
theorem g_apply_round {s : Sem Next} {l : Nat} {f : FuncId} {tmps : Array Value} {a b : Code} {w' : World} (h : s.run P w = .ok (.round l f tmps a b) w') :
    (stepG.apply P true fr cs none s w).bare = .go (gAt (Frame.round l f tmps a b .normal) (fr :: cs)) w' := by simp [stepG.apply, h, gAt]
theorem g_apply_panic {s : Sem Next} {v : Value} {w' : World} (h : s.run P w = .halt (.panic v) w') : (stepG.apply P true fr cs none s w).bare = .go (gAt (fr.raise [{ v, recovered := false }]) cs) w' := by simp [stepG.apply, h, gAt]
theorem g_apply_defer {s : Sem Next} {d : Deferred} {w' : World} (h : s.run P w = .ok (.defer d) w') : (stepG.apply P true fr cs none s w).bare = .go (gAt ({ fr with defers := d :: fr.defers }.finish undef) cs) w' := by simp [stepG.apply, h, gAt]
theorem g_apply_recover {s : Sem Next} {v : Value} {cs' : List Frame} {w' : World} (h : s.run P w = .ok .recover w') (hr : fr.roundOf = none) (ht : tryRecover fr cs = some (v, cs')) :
    (stepG.apply P true fr cs none s w).bare = .go (gAt (fr.finish v) cs') w' := by simp [stepG.apply, h, gAt, hr, ht]
theorem g_apply_norecover {s : Sem Next} {w' : World} (h : s.run P w = .ok .recover w') (hr : fr.roundOf = none) (ht : tryRecover fr cs = none) :
    (stepG.apply P true fr cs none s w).bare = .go (gAt (fr.finish .nilIface) cs) w' := by simp [stepG.apply, h, gAt, hr, ht]

theorem g_beginRound {l : Nat} {w' : World} (hm : fr.mode = .run) (ht : fr.todo = .beginRound :: k) (hr : fr.roundOf = some l) (he : (Instr.beginRound l).run P w = .ok () w') :
    (stepG P true (gAt fr cs) w).bare = .go (gAt { fr with todo := k } cs) w' := by
  have h1 : (stepG P true (gAt fr cs) w).bare = (stepG.apply P true fr cs none (do fr.roundOf.elim (stuck "beginRound: no round") Instr.beginRound; pure .skip) w).bare := by simp [stepG, stepG.exec, gAt, hm, ht]
  rw [h1, g_apply_skip (w' := w') (by rw [hr]; simp [he])]
  simp [Frame.finish, ht]

theorem g_op {ops : Array Oper} {i : Nat} {rest : List Nat} {o : Oper} (hm : fr.mode = .run) (ht : fr.todo = .inRegion ops (i :: rest) :: k) (ho : ops[i]? = some o) (hw : Region.wanted o (yielded ops fr.tmps) = true) (hd : fr.roundOf = none ∨ ∀ c, o.op ≠ .defer c) :
    (stepG P true (gAt fr cs) w).bare = (stepG.apply P true fr cs none (execOp fr.eval o) w).bare := by
  have h1 : (stepG P true (gAt fr cs) w).bare = (stepG.oper P true fr cs none w).bare := by simp [stepG, stepG.exec, gAt, hm, ht, ho, hw]
  rw [h1]
  have h2 : fr.oper? = some o := by simp [Frame.oper?, ht, ho]
  unfold stepG.oper
  rw [h2]
  dsimp only
  split
  · rename_i l c hr hop
    rcases hd with hd | hd
    · rw [hd] at hr; cases hr
    · exact (hd _ hop).elim
  · rfl

theorem g_noop {ops : Array Oper} {i : Nat} {rest : List Nat} (hm : fr.mode = .run) (ht : fr.todo = .inRegion ops (i :: rest) :: k) (hw : ((ops[i]?).map (Region.wanted · (yielded ops fr.tmps))).getD false = false) :
    (stepG P true (gAt fr cs) w).bare = .go (gAt (fr.finish undef) cs) w := by simp [stepG, stepG.exec, gAt, hm, ht, hw]

theorem g_region {id : Nat} {ops : Array Oper} (hm : fr.mode = .run) (ht : fr.todo = .code (.region id ops false) :: k) :
    (stepG P true (gAt fr cs) w).bare = .go (gAt { fr with todo := .inRegion ops (List.range ops.size) :: k } cs) w := by simp [stepG, stepG.exec, gAt, hm, ht]
theorem g_region_draw {id : Nat} {ops : Array Oper} (hm : fr.mode = .run) (ht : fr.todo = .code (.region id ops true) :: k) :
    (stepG P true (gAt fr cs) w).bare = .go (gAt { fr with todo := .inRegion ops (Region.schedule (P.follows .mixedOrders) ops (w.tape w.drawn (.order fr.fn id))) :: k } cs) { w with drawn := w.drawn + 1 } := by
  simp [stepG, stepG.exec, gAt, hm, ht, choose, Sem.run, Question.forced, Question.cut]
theorem g_region_end {ops : Array Oper} (hm : fr.mode = .run) (ht : fr.todo = .inRegion ops [] :: k) :
    (stepG P true (gAt fr cs) w).bare = .go (gAt { fr with todo := k } cs) w := by simp [stepG, stepG.exec, gAt, hm, ht]

theorem g_rangeFunc {f : Operand} {ps : Array Tmp} {asg bd : Code} {l : Nat} {mark : List Deferred} {w' : World} (hm : fr.mode = .run) (ht : fr.todo = .code (.rangeFunc f ps asg bd) :: k) (he : (Instr.enterLoop fr.fn fr.tmps ps asg bd fr.roundOf).run P w = .ok (l, mark) w') :
    (stepG P true (gAt fr cs) w).bare = (stepG.apply P true { fr with todo := .inRangeFunc l :: k, defers := mark ++ fr.defers } cs none
      (do let d ← resolve fr.eval { callee := .value f, args := #[.const (.func (.yield l) #[] #[])], argTypes := #[] } 0; invoke d.target d.args) w').bare := by
  simp [stepG, stepG.exec, gAt, hm, ht, he]
  rfl
end
end Go.Proofs.YtplgnjpeikamhaaGreatDoor.Xec

namespace Go.Proofs.YtplgnjpeikamhaaGreatDoor.Xec
variable {α β : Type}

theorem arr0 (x : Value) (y : Array Value) : (#[x] ++ y : Array Value)[0]? = some x := by
  rw [Array.getElem?_append_left (by simp)]; rfl
theorem arr1 (x : Value) (y : Array Value) : (#[x] ++ y : Array Value).extract 1 (#[x] ++ y : Array Value).size = y := by
  apply Array.toList_inj.1; simp

/-- what a call comes to -/
def CallRel (P : Program) (T : Tab) (e : Env) (w : World) (ac : ACall) (s : Sem Next) : Prop := match ac with
  | .enter f args => ∃ Args : Array Value, VRels e args Args.toList ∧ (∃ fn c, T.fn f = some fn ∧ fn.body = some c) ∧ s.run P w = .ok (.enter f Args) w
  | .val v => ∃ V, VRel e v V ∧ s.run P w = .ok (.value V) w
  | .round id args => ∃ p Args, e.pl id = some p ∧ VRels e args (Array.toList Args) ∧ s.run P w = (Instr.yield p.blk Args).run P w

theorem idx_some {β : Type} {k : AVal → Option β} {r : β} : ∀ (l : List Nat) (c i : Nat), aextern.idx k l c i = some r →
    (∃ j, j < l.length ∧ l[j]? = some c ∧ (∀ q, q < j → l[q]? ≠ some c) ∧ k (.int .i64 (.ofNat (i + j))) = some r) ∨ ((∀ j, j < l.length → l[j]? ≠ some c) ∧ k (.int .i64 (.negSucc 0)) = some r) := by
  intro l
  induction l with
  | nil => intro c i h; exact .inr ⟨fun j hj => by simp at hj, h⟩
  | cons b l ih =>
    intro c i h
    unfold aextern.idx at h
    cases hb : Nat.beq b c with
    | true =>
      rw [hb] at h
      exact .inl ⟨0, by simp, by simp [beq_nat.1 hb], fun q hq => by omega, h⟩
    | false =>
      rw [hb] at h
      simp only [cond_false, natK_eq] at h
      have hne := beq_nat_false.1 hb
      rcases ih _ _ h with ⟨j, h1, h2, h3, h4⟩ | ⟨h1, h2⟩
      · refine .inl ⟨j + 1, by simp; omega, by simpa using h2, fun q hq => ?_, by rw [← h4]; congr 3; omega⟩
        cases q with
        | zero => simpa using hne
        | succ q => simpa using h3 q (by omega)
      · refine .inr ⟨fun j hj => ?_, h2⟩
        cases j with
        | zero => simpa using hne
        | succ j => simpa using h1 j (by simpa using hj)

theorem byte_at {l : List Nat} {i : Nat} (hi : i < l.length) : (toBytes l)[i]! = (l[i]).toUInt8 := by
  have h : i < (toBytes l).size := by simp [toBytes, ByteArray.size, hi]
  rw [getElem!_pos (toBytes l) i h]
  simp [toBytes, ByteArray.getElem_eq_getElem_data]
theorem nilChk (ats : Array TypeId) (t : TypeId) (a : Addr) (s n : ByteArray) : Builtin.ssaWrapNilChk_ ats t #[.pointer (some a), .string s, .string n] = pure (.pointer (some a)) := by
  rfl

theorem run_indexByte {P : Program} {w : World} {l : List Nat} {c : Nat} (hl : ∀ b ∈ l, b < 256) (hc : c < 256) :
    (Extern.BytealgIndexByte.indexByte #[.string (toBytes l), .int .u8 (.ofNat c)]).run P w = .ok (match (List.range l.length).find? (fun i => l[i]? == some c) with | some i => .int .i64 (.ofNat i) | none => .int .i64 (.negSucc 0)) w := by
  have h2 : (List.range (toBytes l).size).find? (fun i => (toBytes l)[i]! == c.toUInt8) = (List.range l.length).find? (fun i => l[i]? == some c) := by
    rw [toBytes_size]
    have key : ∀ L : List Nat, (∀ i ∈ L, i < l.length) → L.find? (fun i => (toBytes l)[i]! == c.toUInt8) = L.find? (fun i => l[i]? == some c) := by
      intro L
      induction L with
      | nil => intro _; rfl
      | cons i L ih =>
        intro hL
        have hi := hL i (by simp)
        have he : ((toBytes l)[i]! == c.toUInt8) = (l[i]? == some c) := by
          rw [byte_at hi, List.getElem?_eq_getElem hi]
          have hb := hl _ (List.getElem_mem hi)
          by_cases hq : l[i] = c
          · rw [hq]; simp
          · have : l[i].toUInt8 ≠ c.toUInt8 := fun hh => hq (toUInt8_inj hb hc hh)
            have e2 : (some l[i] == some c) = false := by simp [hq]
            rw [e2]
            exact beq_eq_false_iff_ne.2 this
        simp only [List.find?_cons, he, ih (fun j hj => hL j (by simp [hj]))]
    exact key _ (fun i hi => by simpa using hi)
  have hdef : ∀ B C : Value, Extern.BytealgIndexByte.indexByte #[B, C] = (do
      let b ← Extern.Bytes.bytesOf B
      let c ← Extern.Bytes.asByte C
      match (List.range b.size).find? fun i => b[i]! == c with
      | some i => pure (goInt i)
      | none => pure (goInt (-1))) := fun _ _ => rfl
  rw [hdef]
  simp only [Extern.Bytes.bytesOf, Extern.Bytes.asByte, Sem.run_bind, Sem.run_pure, Result.andThen_ok]
  have h3 : ((Int.ofNat c).toNat).toUInt8 = c.toUInt8 := rfl
  rw [h3, h2]
  split <;> rfl

section
variable {P : Program} {T : Tab} (hT : TabOk P T) {F : Nat → Prop} {e : Env} {m : AMem} {w : World} (hR : Rel T F e m w)
include hT

theorem acallFunc_ok {f : Nat} {args : List AVal} {Args : Array Value} (hv : VRels e args Args.toList) {k : ACall → Option β} {r : β} (h : acallFunc T f args k = some r) :
    ∃ ac, k ac = some r ∧ CallRel P T e w ac (callFunc f Args) := by
  unfold acallFunc at h
  split at h
  · rename_i fn hf
    split at h
    · rename_i c hb
      exact ⟨_, h, Args, hv, ⟨fn, c, hf, hb⟩, hT.call _ _ _ hf hb _ _⟩
    · split at h
      · rename_i n hx
        unfold aextern at h
        split at h
        · rename_i l c
          cases hc : Nat.blt c 256 with
          | false => rw [hc] at h; cases h
          | true =>
            rw [hc] at h
            simp only [cond_true] at h
            have hc := blt_nat.1 hc
            obtain ⟨S, r1, hA, hs, hv⟩ := hv.cons
            obtain ⟨C, r2, rfl, hcr, hv⟩ := hv.cons
            obtain rfl := hv.nil
            simp only [VRel] at hs hcr
            obtain ⟨rfl, hl⟩ := hs
            subst hcr
            have hA' : Args = #[.string (toBytes l), .int .u8 (.ofNat c)] := by
              rw [← Array.toArray_toList (xs := Args), hA]
            have hrun := hT.ext1 _ hx Args w
            rw [hA'] at hrun
            simp only [Sem.run_bind, run_indexByte hl hc, Result.andThen_ok, Sem.run_pure] at hrun
            rw [hA']
            rcases idx_some _ _ _ h with ⟨j, h1, h2, h3, h4⟩ | ⟨h1, h2⟩
            · have : (List.range l.length).find? (fun i => l[i]? == some c) = some j := by
                rw [List.find?_range_eq_some]
                refine ⟨by simp [h2], by simp [h1], fun q hq => by simpa using h3 q hq⟩
              rw [this] at hrun
              refine ⟨_, h4, _, ?_, hrun⟩
              simp only [VRel, Nat.zero_add]
            · have : (List.range l.length).find? (fun i => l[i]? == some c) = none := by
                rw [List.find?_range_eq_none]
                exact fun q hq => by simpa using h1 q hq
              rw [this] at hrun
              exact ⟨_, h2, _, by simp only [VRel], hrun⟩
        · rename_i x
          obtain ⟨X, r1, hA, hx1, hv⟩ := hv.cons
          obtain rfl := hv.nil
          have hA' : Args = #[X] := by rw [← Array.toArray_toList (xs := Args), hA]
          rw [hA']
          exact ⟨_, h, X, hx1, hT.ext2 _ hx X w⟩
        · cases h
      · cases h
  · cases h

theorem acallMethod_ok (hR : Rel T F e m w) {recv : AVal} {Recv : Value} {name : String} {args : List AVal} {Args : Array Value} (hr : VRel e recv Recv) (hv : VRels e args Args.toList) {k : ACall → Option β} {r : β} (h : acallMethod T recv name args m k = some r) :
    ∃ ac, k ac = some r ∧ CallRel P T e w ac (callMethod Recv name Args) := by
  unfold acallMethod at h
  split at h
  · rename_i t v
    simp only [VRel] at hr
    obtain ⟨V, hv1, rfl⟩ := hr
    split at h
    · rename_i i hi
      split at h
      · rename_i mt hmt
        have fin : ∀ (f : FuncId) (x : AVal) (X : Value), VRel e x X → (method (P.types.size + Made.depth) t V name).run P w = .ok (f, X) w → acallFunc T f (x :: args) k = some r → ∃ ac, k ac = some r ∧ CallRel P T e w ac (callMethod (.iface t V) name Args) := by
          intro f x X hx hm hc
          obtain ⟨ac, h1, h2⟩ := acallFunc_ok (w := w) hT (Args := #[X] ++ Args) (by simpa using VRels.mk_cons hx hv) hc
          refine ⟨ac, h1, ?_⟩
          have heq : (callMethod (.iface t V) name Args).run P w = (callFunc f (#[X] ++ Args)).run P w := by simp [callMethod, hm]
          cases ac <;> simp only [CallRel] at h2 ⊢ <;> simpa only [heq] using h2
        have hm0 : ∀ (f : FuncId) (X : Value), (do
            let some m := i.methods.find? (·.name == name) | stuck "invoke: the dynamic type lacks the method"
            let (xt, x) ← follow m.path.toList t (.val V)
            match m.func with
            | none =>
              match ← x.get xt with
              | .iface t' v' => method (P.types.size + 99) t' v' name
              | .nilIface => runtimePanic .nilDeref
              | _ => stuck "method row: interface value expected"
            | some (f, pointerReceiver) =>
              pure (f, ← receiverAt xt x pointerReceiver (if m.path.isEmpty then some ((name.splitOn ".").getLastD name) else none)) : Sem (FuncId × Value)).run P w = .ok (f, X) w → (method (P.types.size + Made.depth) t V name).run P w = .ok (f, X) w := by
          intro f X hh
          rw [show P.types.size + Made.depth = (P.types.size + 99) + 1 from rfl]
          unfold method
          rw [Sem.run_bind, run_info hT hi]
          exact hh
        split at h
        · rename_i f el hp hf hu
          refine fin f v V hv1 (hm0 f V ?_) h
          simp [hmt, hp, hf, follow, receiverAt, run_und hT hu, Place.get]
        · rename_i f el hp hf hu
          split at h
          · rename_i id off
            simp only [VRel] at hv1
            obtain ⟨p, hpl, rfl⟩ := hv1
            split at h
            · rename_i x hx
              obtain ⟨X, g1, g2⟩ := loadVar_ok hT hR hpl hx
              refine fin f x X g2 (hm0 f X ?_) h
              have hpe : mt.path.isEmpty = true := by
                have : mt.path = #[] := by rw [← Array.toArray_toList (xs := mt.path), hp]
                rw [this]; rfl
              simp [hmt, hp, hf, follow, receiverAt, run_und hT hu, Place.get, hpe, strVal, nilChk, asAddr, g1]
            · cases h
          · cases h
        · rename_i f d hnp hp hf hu
          refine fin f v V hv1 (hm0 f V ?_) h
          cases d <;> first | exact (hnp _ rfl).elim | (simp [hmt, hp, hf, follow, receiverAt, run_und hT hu, Place.get]; done)
        · cases h
      · cases h
    · cases h
  · cases h

theorem CallRel.run {s s' : Sem Next} {ac : ACall} (h : CallRel P T e w ac s) (hs : s'.run P w = s.run P w) : CallRel P T e w ac s' := by
  cases ac <;> simp only [CallRel] at h ⊢ <;> simpa only [hs] using h

theorem acallFn_ok (hR : Rel T F e m w) {fn : Fn} {args cap : List AVal} {Args Cap : Array Value} (hv : VRels e args Args.toList) (hc : VRels e cap Cap.toList) {k : ACall → Option β} {r : β} (h : acallFn T fn args cap m k = some r) :
    ∃ ac, k ac = some r ∧ CallRel P T e w ac (invoke (.fn fn Cap) Args) := by
  unfold acallFn at h
  split at h
  · rename_i f
    rw [appK_eq] at h
    obtain ⟨ac, h1, h2⟩ := acallFunc_ok (w := w) hT (Args := Args ++ Cap) (by simpa using hv.append hc) h
    exact ⟨ac, h1, h2⟩
  · rename_i name
    split at h
    · rename_i r0 rest
      obtain ⟨R, R2, hA, hr, hv⟩ := hv.cons
      have hA' : Args = #[R] ++ R2.toArray := by rw [← Array.toArray_toList (xs := Args), hA]; simp
      obtain ⟨ac, h1, h2⟩ := acallMethod_ok hT hR (Args := R2.toArray) hr (by simpa using hv) h
      refine ⟨ac, h1, CallRel.run hT h2 ?_⟩
      have e1 : Args[0]? = some R := by rw [hA']; simp
      have e2 : Args.extract 1 Args.size = R2.toArray := by rw [hA']; simp
      unfold invoke
      simp only [e1, e2]
    · cases h
  · cases h

theorem aresolve_ok (hR : Rel T F e m w) {c : Call} {ty : TypeId} {ev : Operand → Option AVal} {ρ : Operand → Value} (hev : ∀ x a, ev x = some a → VRel e a (ρ x)) {k : ACall → Option β} {r : β} (h : aresolve T ev c m k = some r) :
    ∃ ac, k ac = some r ∧ CallRel P T e w ac (do let d ← resolve ρ c ty; invoke d.target d.args) := by
  obtain ⟨callee, args, ats⟩ := c
  unfold aresolve at h
  dsimp only at h
  split at h
  · rename_i f l hl
    have hv := evs_ok hev _ _ hl
    split at h
    · rename_i fn first cap hf
      have hf := hev _ _ hf
      simp only [VRel] at hf
      obtain ⟨hny, fs, cs, h1, h2, hf⟩ := hf
      rw [appK_eq] at h
      obtain ⟨ac, g1, g2⟩ := acallFn_ok hT hR (Args := fs.toArray ++ args.map ρ) (Cap := cs.toArray) (by simpa using h1.append hv) (by simpa using h2) h
      refine ⟨ac, g1, CallRel.run hT g2 ?_⟩
      simp [resolve, hf, Deferred.ofValue]
    · rename_i id hf
      have hf := hev _ _ hf
      simp only [VRel] at hf
      obtain ⟨p, hp, hf⟩ := hf
      refine ⟨_, h, p, args.map ρ, hp, by simpa using hv, ?_⟩
      simp [resolve, hf, Deferred.ofValue, invoke]
    · cases h
  · rename_i r0 name l hl
    have hv := evs_ok hev _ _ hl
    split at h
    · rename_i v hr
      obtain ⟨ac, g1, g2⟩ := acallMethod_ok hT hR (Args := args.map ρ) (hev _ _ hr) (by simpa using hv) h
      refine ⟨ac, g1, CallRel.run hT g2 ?_⟩
      have hres : (do let d ← resolve ρ ⟨.invoke r0 name, args, ats⟩ ty; invoke d.target d.args : Sem Next).run P w = (invoke (.fn (.method name) #[]) (#[ρ r0] ++ args.map ρ)).run P w := rfl
      rw [hres]
      unfold invoke
      simp only [arr0, arr1]
    · cases h
  · cases h
end
end Go.Proofs.YtplgnjpeikamhaaGreatDoor.Xec

namespace Go.Proofs.YtplgnjpeikamhaaGreatDoor.Xec
variable {α β : Type}

theorem TRel.put {e : Env} {tm : Tr AVal} {n d : Nat} {arr : Array Value} {v : AVal} {V : Value} (ht : TRel e tm n arr) (hd : d < n) (hv : VRel e v V) {k : Tr AVal → Option β} {r : β} (h : tm.setK 40 d (some v) k = some r) :
    ∃ tm', k tm' = some r ∧ TRel e tm' n (arr.setIfInBounds d V) := by
  obtain ⟨tm', h1, h2⟩ := Tr.setK_some _ _ _ _ _ _ h
  refine ⟨tm', h1, by simp [ht.1], fun i => ?_⟩
  rw [h2]
  by_cases hi : i = d
  · subst hi
    rw [if_pos rfl, Array.getD_eq_getD_getElem?, Array.getElem?_setIfInBounds_self_of_lt (by rw [ht.1]; exact hd)]
    exact hv
  · rw [if_neg hi, Array.getD_eq_getD_getElem?, Array.getElem?_setIfInBounds_ne (Ne.symm hi), ← Array.getD_eq_getD_getElem?]
    exact ht.2 i

theorem putAll_some {e : Env} {nt : Nat} : ∀ (ds : List Tmp) (vs : List AVal) (Vs : List Value) (tm : Tr AVal) (arr : Array Value) (k : Tr AVal → Option (List ARes)) (r : List ARes), callOp.putAll nt ds vs tm k = some r → VRels e vs Vs → TRel e tm nt arr →
    ∃ tm', k tm' = some r ∧ TRel e tm' nt ((ds.zip Vs).foldl (fun tmps x => tmps.setIfInBounds x.1 x.2) arr) := by
  intro ds
  induction ds with
  | nil =>
    intro vs Vs tm arr k r h hv ht
    cases vs with
    | nil => simp only [callOp.putAll] at h; exact ⟨tm, h, by simpa using ht⟩
    | cons v vs => simp [callOp.putAll] at h
  | cons d ds ih =>
    intro vs Vs tm arr k r h hv ht
    cases vs with
    | nil => simp [callOp.putAll] at h
    | cons v vs =>
      simp only [callOp.putAll] at h
      obtain ⟨V, Vs', rfl, h1, h2⟩ := hv.cons
      cases hd : Nat.blt d nt with
      | false => rw [hd] at h; cases h
      | true =>
        rw [hd] at h
        simp only [cond_true] at h
        obtain ⟨tm1, g1, g2⟩ := ht.put (blt_nat.1 hd) h1 h
        exact ih _ _ _ _ _ _ g1 h2 g2

theorem bindL_some : ∀ (l : List ARes) (f : ARes → Option (List ARes)) (L : List ARes), bindL l f = some L → ∀ r ∈ l, ∃ L1, f r = some L1 ∧ L1 ⊆ L := by
  intro l
  induction l with
  | nil => intro f L _ r hr; cases hr
  | cons x l ih =>
    intro f L h r hr
    cases l with
    | nil =>
      simp only [bindL] at h
      simp only [List.mem_singleton] at hr
      subst hr
      exact ⟨L, h, fun _ h => h⟩
    | cons y l =>
      simp only [bindL] at h
      split at h
      · rename_i a b ha hb
        cases h
        rcases List.mem_cons.1 hr with rfl | hr
        · exact ⟨a, ha, fun z hz => List.mem_append_left _ hz⟩
        · obtain ⟨L1, h1, h2⟩ := ih f b hb r hr
          exact ⟨L1, h1, fun z hz => List.mem_append_right _ (h2 hz)⟩
      · cases h

theorem Rel.grow {T : Tab} {F : Nat → Prop} {e : Env} {m : AMem} {w w' : World} (h : Rel T F e m w) (hk : Keep (fun b => b < w.heap.size) w w') : Rel T F e m w' :=
  ⟨fun i b p hi hp => (h.real i b p hi hp).mono (Env.le_refl e) rfl (hk.blk _ (h.real i b p hi hp).lt), h.sep, h.grp, h.fresh, h.frame, fun b hb => Nat.lt_of_lt_of_le (h.size b hb) hk.grow, h.glob⟩

section
variable {P : Program} {T : Tab} (hT : TabOk P T) {F : Nat → Prop} {run : Run} (hS : Sound P T F run) {e : Env} {m : AMem}
include hT hS

theorem enter_ok {w : World} (hR : Rel T F e m w) {f : Nat} {args : List AVal} {Args : Array Value} (hv : VRels e args Args.toList) {dk : Bool} {cm : AMode} {L : List ARes} (h : enter T run f args dk cm m = some L) {cs : List Frame}
    (hc : dk = true → ∃ caller rest, cs = caller :: rest ∧ ModeRel e cm caller.mode) :
    ∃ nt c, Ends P T F ⟨f, nt, dk, none⟩ [.code c] cs (Frame.enter P f Args (if dk then .deferred else .normal)) w e m L := by
  unfold enter at h
  cases hkn : T.kn f with
  | true =>
    rw [hkn] at h
    cases dk with
    | true => cases h
    | false =>
      simp only [cond_true, cond_false] at h
      split at h
      · cases h
        obtain ⟨en, w', fr, ⟨rfl, hk⟩, hcomes, hfn, hleave⟩ := hT.kn f hkn w cs
        obtain ⟨hm, hd, hkd, fn, hff, hrr⟩ := hleave
        have hA : Args = #[] := by
          have := hv.nil
          rw [← Array.toArray_toList (xs := Args), this]
        subst hA
        have hKF : Keep F w w' := ⟨fun b hb => hk.blk b (hR.size b hb), hk.grow, hk.os, hk.output, hk.tape⟩
        refine ⟨0, .skip, _, List.mem_singleton_self _, e, w', fr, cs, hcomes, Ext.refl m e, Nat.le_refl _, CsAfter.refl (e := e) (cm := cm) hc, hc, .bool true, w', VRel.rbool .., hR.grow hk, hKF, hkd, ?_, fun _ => ⟨rfl, hfn, hm, hd, fn, hff, hrr⟩⟩
        simp [stepG, unwind, gAt, hm, hd, hff, hrr]
      · cases h
  | false =>
  rw [hkn] at h
  simp only [cond_false] at h
  split at h
  · rename_i fn hf
    split at h
    · rename_i c hb
      cases hle : Nat.ble args.length fn.ntmps with
      | false => rw [hle] at h; cases h
      | true =>
        rw [hle] at h
        have hle := ble_nat.1 hle
        obtain ⟨tm, h1, ht⟩ := fillK_some _ _ _ _ _ h
        have hl := hv.length
        simp only [Array.length_toList] at hl
        have hpf := hT.fn _ _ hf
        refine ⟨fn.ntmps, c, hS _ _ _ _ _ _ _ _ h1 e w _ cs hR ⟨⟨rfl, ⟨by simp [Frame.enter, hpf]; omega, fun i => ?_⟩, .nil, rfl, rfl, rfl⟩, fun _ => ?_⟩ hc⟩
        · rw [ht]
          simp only [Frame.enter, hpf, Option.map_some, Option.getD_some, Array.getD_eq_getD_getElem?]
          by_cases hi : i < args.length
          · rw [if_pos (by omega), Array.getElem?_append_left (by omega)]
            obtain ⟨V, hV, hr⟩ := hv.get (List.getElem?_eq_getElem hi)
            rw [Array.getElem?_toList] at hV
            rw [hV, Nat.sub_zero, List.getElem?_eq_getElem hi]
            exact hr
          · rw [if_neg (by omega), Tr.get_lf, Array.getElem?_append_right (by omega)]
            have : (Array.replicate (fn.ntmps - Args.size) undef)[i - Args.size]?.getD undef = undef := by
              rw [Array.getElem?_replicate]; split <;> rfl
            rw [this]
            exact undef_rel e
        · simp only [Frame.enter, hpf, Option.bind_some, hb, Option.getD_some]
          exact .cons rfl .nil
    · cases h
  · cases h

/-- a call's result, back in the caller -/
theorem back_ok {w w0 : World} {l L : List ARes} {kv : AVal → AMem → Option (List ARes)} {kp : List APan → AMem → Option (List ARes)}
    (hb : (bindL l fun ⟨out, _, m'⟩ => match out with
      | .ret v => kv v m'
      | .pan ch => kp ch m'
      | .atLoop .. => none) = some L) {fr0 fr fr1 : Frame} {cs : List Frame} {c : Ctx} {todo : List AItem} (hck : c.dk = false) (hs : Steps P (lone fr0 cs w0) (lone fr1 (fr :: cs) w)) (hE : Ends P T F c todo (fr :: cs) fr1 w e m l) :
    (∃ v m' L1 e' w' V, kv v m' = some L1 ∧ L1 ⊆ L ∧ VRel e' v V ∧ Steps P (lone fr0 cs w0) (lone (fr.finish V) cs w') ∧ Rel T F e' m' w' ∧ Ext m e e' ∧ m.next ≤ m'.next ∧ Keep F w w') ∨
    (∃ ch m' L1 e' w' C, kp ch m' = some L1 ∧ L1 ⊆ L ∧ ChainRel e' ch C ∧ Steps P (lone fr0 cs w0) (lone (fr.raise C) cs w') ∧ Rel T F e' m' w' ∧ Ext m e e' ∧ m.next ≤ m'.next ∧ Keep F w w') := by
  obtain ⟨r, hr, e', w', fr', cs', h1, h2, h3, h4, h5, h6⟩ := hE
  obtain ⟨L1, g1, g2⟩ := bindL_some _ _ _ hb r hr
  obtain rfl := h4.1 hck
  obtain ⟨out, cm, mem⟩ := r
  cases out with
  | ret v =>
    obtain ⟨V, w'', a1, a2, a3, a4, a5, _⟩ := h6
    refine .inl ⟨v, mem, L1, e', w'', V, g1, g2, a1, hs.trans (h1.trans (.one (step_lone_go ?_))), a2, h2, h3, a3⟩
    have hk : fr'.kind = .normal := by rw [a4]; simp [Ctx.kind, hck]
    rw [show ({ frame := fr', callers := fr :: cs, status := .running, dying := none } : Goroutine) = gAt fr' (fr :: cs) from rfl, a5]
    simp [doReturn, hk]
  | pan ch =>
    obtain ⟨a1, a2, a3, a4, ⟨C, a5, a6⟩, fn, a7⟩ := h6
    refine .inr ⟨ch, mem, L1, e', w', C, g1, g2, a5, hs.trans (h1.trans (.one (step_lone_go ?_))), a1, h2, h3, a2⟩
    simp [stepG, unwind, Frame.catches, a6, a4, a7]
  | atLoop tm ds b k => cases g1

theorem callOp_ok {w w0 : World} (hR : Rel T F e m w) {ac : ACall} {kv : AVal → AMem → Option (List ARes)} {kp : List APan → AMem → Option (List ARes)} {L : List ARes} (h : callOp T run ac m kv kp = some L) {s : Sem Next} {fr0 fr : Frame} {cs : List Frame}
    (hc : CallRel P T e w ac s) (hstep : (stepG P true (gAt fr0 cs) w0).bare = (stepG.apply P true fr cs none s w).bare) (hk : ∀ d r sv k, fr.todo ≠ .call d true r sv :: k) :
    (∃ v m' L1 e' w' V, kv v m' = some L1 ∧ L1 ⊆ L ∧ VRel e' v V ∧ Steps P (lone fr0 cs w0) (lone (fr.finish V) cs w') ∧ Rel T F e' m' w' ∧ Ext m e e' ∧ m.next ≤ m'.next ∧ Keep F w w') ∨
    (∃ ch m' L1 e' w' C, kp ch m' = some L1 ∧ L1 ⊆ L ∧ ChainRel e' ch C ∧ Steps P (lone fr0 cs w0) (lone (fr.raise C) cs w') ∧ Rel T F e' m' w' ∧ Ext m e e' ∧ m.next ≤ m'.next ∧ Keep F w w') := by
  unfold callOp at h
  dsimp only at h
  split at h
  · rename_i v
    obtain ⟨V, h1, h2⟩ := hc
    refine .inl ⟨v, m, L, e, w, V, h, fun _ h => h, h1, .one (step_lone_go ?_), hR, Ext.refl m e, Nat.le_refl _, Keep.refl F w⟩
    exact hstep.trans (g_apply_value h2)
  · rename_i f args
    obtain ⟨Args, h1, h2, h3⟩ := hc
    split at h
    · rename_i l hl
      obtain ⟨nt, c, hE⟩ := enter_ok hT hS hR h1 hl (cs := fr :: cs) (fun hd => by cases hd)
      exact back_ok hT hS h rfl (.one (step_lone_go (hstep.trans (g_apply_enter hk h3)))) hE
    · cases h
  · rename_i id args
    obtain ⟨p, Args, hp, hv, hrun⟩ := hc
    split at h
    · rename_i l hb
      rw [AMem.get_blks] at hb
      obtain ⟨q, arr, hq, ht, hobj⟩ := hR.real _ _ _ hb hp
      cases hlen : Nat.beq args.length l.params.length with
      | false => rw [hlen] at h; cases h
      | true =>
        rw [hlen] at h
        have hlen := beq_nat.1 hlen
        simp only [cond_true] at h
        obtain ⟨tm', h1, h2⟩ := putAll_some _ _ _ _ _ _ _ h hv ht
        split at h1
        · rename_i l1 hl1
          have hl := hv.length
          simp only [Array.length_toList] at hl
          have hz : (l.params.toArray.zip Args).foldl (fun tmps (x : Tmp × Value) => tmps.setIfInBounds x.1 x.2) arr = (l.params.zip Args.toList).foldl (fun tmps x => tmps.setIfInBounds x.1 x.2) arr := by
            rw [← Array.foldl_toList, Array.toList_zip]
          obtain ⟨tmps, htm⟩ : ∃ t, t = (l.params.zip Args.toList).foldl (fun tmps x => tmps.setIfInBounds x.1 x.2) arr := ⟨_, rfl⟩
          rw [← htm] at h2 hz
          have hy : (Instr.yield p.blk Args).run P w = .ok (.round p.blk l.fn tmps l.assign l.body) w := by
            unfold Instr.yield Instr.getLoop
            simp only [Sem.run_bind, run_getObj hobj (by simp), Result.andThen_ok, Sem.run_pure]
            rw [if_neg (by simp; omega)]
            show Result.ok (Next.round p.blk l.fn ((l.params.toArray.zip Args).foldl (fun tmps (x : Tmp × Value) => tmps.setIfInBounds x.1 x.2) arr) l.assign l.body) w = _
            rw [hz]
          have hE := hS _ _ _ _ _ _ _ _ hl1 e w (Frame.round p.blk l.fn tmps l.assign l.body .normal) (fr :: cs) hR
            ⟨⟨rfl, h2, .nil, rfl, rfl, ⟨p, hp, rfl⟩⟩, fun _ => .cons rfl (.cons rfl (.cons rfl .nil))⟩ (fun hd => by cases hd)
          exact back_ok hT hS h1 rfl (.one (step_lone_go (hstep.trans (g_apply_round (hrun.trans hy))))) hE
        · cases h1
    · cases h
end
end Go.Proofs.YtplgnjpeikamhaaGreatDoor.Xec

namespace Go.Proofs.YtplgnjpeikamhaaGreatDoor.Xec
variable {α β : Type}

theorem hasNat_iff {n : Nat} : ∀ {l : List Nat}, hasNat n l = true ↔ n ∈ l
  | [] => by simp [hasNat]
  | a :: l => by
    unfold hasNat
    cases h : Nat.beq a n with
    | true => simp [beq_nat.1 h]
    | false =>
      have := beq_nat_false.1 h
      simp only [cond_false, hasNat_iff, List.mem_cons]
      constructor
      · exact .inr
      · rintro (rfl | h)
        · exact (this rfl).elim
        · exact h

theorem EntsRel.filter {e : Env} {es : List AEnt} {xs : List MapEntry} (h : EntsRel e es xs) {p : AEnt → Bool} {q : MapEntry → Bool} (hpq : ∀ a x, x.born = a.born → p a = q x) : EntsRel e (es.filter p) (xs.filter q) := by
  induction h with
  | nil => exact .nil
  | cons h1 h2 h3 _ ih =>
    rename_i a x l xs _
    rw [List.filter_cons, List.filter_cons, hpq a x h3]
    split
    · exact .cons h1 h2 h3 ih
    · exact ih
theorem EntsRel.all {e : Env} {es : List AEnt} {xs : List MapEntry} (h : EntsRel e es xs) {p : AEnt → Bool} {q : MapEntry → Bool} (hpq : ∀ a x, x.born = a.born → p a = q x) : es.all p = xs.all q := by
  induction h with
  | nil => rfl
  | cons h1 h2 h3 _ ih => simp only [List.all_cons, ih, hpq _ _ h3]
theorem EntsRel.any {e : Env} {es : List AEnt} {xs : List MapEntry} (h : EntsRel e es xs) {p : AEnt → Bool} {q : MapEntry → Bool} (hpq : ∀ a x, x.born = a.born → p a = q x) : es.any p = xs.any q := by
  induction h with
  | nil => rfl
  | cons h1 h2 h3 _ ih => simp only [List.any_cons, ih, hpq _ _ h3]

theorem run_chooseNext {P : Program} {w : World} {n : Nat} (hn : 1 ≤ n) : ∃ i w', (choose (.mapNext n)).run P w = .ok i w' ∧ i < n ∧ w'.heap = w.heap ∧ w'.os = w.os ∧ w'.output = w.output ∧ w'.tape = w.tape := by
  by_cases h1 : n ≤ 1
  · exact ⟨0, w, by simp [choose, Sem.run, Question.forced, h1], by omega, rfl, rfl, rfl, rfl⟩
  · refine ⟨w.tape w.drawn (.mapNext n) % n, { w with drawn := w.drawn + 1 }, by simp [choose, Sem.run, Question.forced, h1, Question.cut], Nat.mod_lt _ (by omega), rfl, rfl, rfl, rfl⟩

theorem catL_some {a b : Option (List ARes)} {L : List ARes} (h : catL a b = some L) : ∃ x y, a = some x ∧ b = some y ∧ x ⊆ L ∧ y ⊆ L := by
  unfold catL at h
  split at h
  · rename_i x y
    cases h
    exact ⟨x, y, rfl, rfl, List.subset_append_left _ _, List.subset_append_right _ _⟩
  · cases h

theorem eachEnt_some : ∀ (l : List AEnt) (f : AEnt → Option (List ARes)) (fin : Option (List ARes)) (L : List ARes), eachEnt l f fin = some L → (l = [] → fin = some L) ∧ ∀ en ∈ l, ∃ L1, f en = some L1 ∧ L1 ⊆ L := by
  intro l
  induction l with
  | nil => intro f fin L h; exact ⟨fun _ => h, fun en hen => by cases hen⟩
  | cons x l ih =>
    intro f fin L h
    refine ⟨fun hh => (by cases hh), fun en hen => ?_⟩
    cases l with
    | nil =>
      simp only [eachEnt] at h
      simp only [List.mem_singleton] at hen
      subst hen
      exact ⟨L, h, fun _ h => h⟩
    | cons y l =>
      simp only [eachEnt] at h
      obtain ⟨a, b, h1, h2, h3, h4⟩ := catL_some h
      rcases List.mem_cons.1 hen with rfl | hen
      · exact ⟨a, h1, h3⟩
      · obtain ⟨L1, g1, g2⟩ := (ih f fin b h2).2 en hen
        exact ⟨L1, g1, fun z hz => h4 (g2 hz)⟩

section
variable {P : Program} {T : Tab} {F : Nat → Prop} {e : Env} {m : AMem} {w : World}

/-- the next entry of a map: one of those that are left -/
theorem anextMap_ok (hR : Rel T F e m w) {r0 id since last clock : Nat} {seen : List Nat} {left : List AEnt} {p : Plc} (hb : m.blks.get r0 = some (.miter (some id) since seen last)) (hl : leftOf m r0 = some (clock, left)) (hp : e.pl r0 = some p) (ty : TypeId) :
    (left = [] ∧ ∃ w', (Instr.next (.pointer (some ⟨p.blk, 0, none⟩)) false ty).run P w = .ok (.tuple #[.bool false]) w' ∧ Rel T F e m w' ∧ Keep F w w') ∨
    ∃ en ∈ left, ∃ K V, VRel e en.key K ∧ VRel e en.val V ∧ ∀ {β : Type} (k : AMem → Option β) (r : β), (appK seen [en.born] fun seen' => setBlkK m r0 (.miter (some id) since seen' clock) fun m' => k m') = some r →
      ∃ m' w', k m' = some r ∧ m'.next = m.next ∧ (Instr.next (.pointer (some ⟨p.blk, 0, none⟩)) false ty).run P w = .ok (.tuple #[.bool true, K, V]) w' ∧ Rel T F e m' w' ∧ Keep F w w' := by
  unfold leftOf at hl
  rw [AMem.get_blks, hb] at hl
  dsimp only at hl
  rw [AMem.get_blks] at hl
  split at hl
  · rename_i es c hbm
    cases h1 : (!seen.isEmpty && !es.isEmpty && es.all (fun e => Nat.ble last e.born)) with
    | true => rw [h1] at hl; cases hl
    | false =>
      rw [h1] at hl
      simp only [cond_false] at hl
      cases h2 : (es.filter fun e => !hasNat e.born seen).any (fun e => Nat.ble since e.born) with
      | true => rw [h2] at hl; cases hl
      | false =>
        rw [h2] at hl
        simp only [cond_false, Option.some.injEq, Prod.mk.injEq] at hl
        obtain ⟨rfl, rfl⟩ := hl
        obtain ⟨rr, hrr, hobj, hbase⟩ := hR.real _ _ _ hb hp
        obtain ⟨q, hq, rfl⟩ := hrr
        obtain ⟨xs, hxs, hE⟩ := hR.real _ _ _ hbm hq
        have hF := hE.filter (p := fun e => !hasNat e.born seen) (q := fun x => !seen.toArray.contains x.born) (fun a x hx => by
          rw [hx]
          congr 1
          rw [Bool.eq_iff_iff, hasNat_iff]; simp)
        have hall : xs.toList.all (fun x => decide (x.born ≥ last)) = es.all (fun e => Nat.ble last e.born) := (hE.all (fun a x hx => by rw [hx, Bool.eq_iff_iff, ble_nat]; simp)).symm
        have hemp : xs.isEmpty = es.isEmpty := by
          have h9 : xs.size = es.length := by simpa using hE.length
          rw [Bool.eq_iff_iff, Array.isEmpty_iff_size_eq_zero, List.isEmpty_iff_length_eq_zero]; omega
        have hnew : ∀ x ∈ xs.toList.filter (fun x => !seen.toArray.contains x.born), x.born < since := by
          have h3 := hF.any (p := fun e => Nat.ble since e.born) (q := fun x => decide (since ≤ x.born)) (fun a x hx => by rw [hx, Bool.eq_iff_iff, ble_nat]; simp)
          rw [h2] at h3
          intro x hx
          have := (List.any_eq_false.1 h3.symm) x hx
          simpa using this
        obtain ⟨L, hL⟩ : ∃ L, L = xs.toList.filter (fun x => !seen.toArray.contains x.born) := ⟨_, rfl⟩
        rw [← hL] at hF hnew
        have hleft : (xs.filter fun e => !seen.toArray.contains e.born).toList = L := by rw [hL]; simp
        have hcond : (!seen.toArray.isEmpty && !xs.isEmpty && xs.all fun x => decide (x.born ≥ last)) = false := by
          rw [← h1, hemp, ← hall]
          simp
        have hold : (xs.filter fun e => !seen.toArray.contains e.born).filter (fun e => decide (e.born < since)) = (xs.filter fun e => !seen.toArray.contains e.born) := by
          apply Array.toList_inj.1
          rw [Array.toList_filter, hleft, List.filter_eq_self]
          intro x hx; simpa using hnew x hx
        have hnone : (xs.filter fun e => !seen.toArray.contains e.born).filter (fun e => decide (e.born ≥ since)) = #[] := by
          apply Array.toList_inj.1
          rw [Array.toList_filter, hleft]
          simp only [List.filter_eq_nil_iff]
          intro x hx; have := hnew x hx; simp; omega
        have hrun0 : ∀ (cand : Array (Option MapEntry)), ((if (xs.filter fun e => !seen.toArray.contains e.born).isEmpty then #[none] else #[]) ++ ((xs.filter fun e => !seen.toArray.contains e.born) ++ (#[] : Array MapEntry)).map some) = cand →
          (Instr.next (.pointer (some ⟨p.blk, 0, none⟩)) false ty).run P w = (do match cand[← choose (.mapNext cand.size)]? with
            | some (some e) =>
              Go.setObj p.blk (.mapIter (some q.blk) since (seen.toArray.push e.born) c)
              Pure.pure (.tuple #[.bool true, e.key, e.val])
            | some none => Pure.pure (.tuple #[.bool false])
            | none => stuck "Next: no such candidate" : Sem Value).run P w := by
          intro cand hcand
          unfold Instr.next
          simp only [Sem.run_bind, run_getObj (P := P) hobj (by simp), run_getObj (P := P) hxs (by simp), Result.andThen_ok, hcond, hold, hnone]
          rw [← hcand, if_neg (by decide), Sem.run_bind]
          rfl
        cases hLc : L with
        | nil =>
          rw [hLc] at hF hleft
          have he : (es.filter fun e => !hasNat e.born seen) = [] := by cases hh : (es.filter fun e => !hasNat e.born seen) with
            | nil => rfl
            | cons a l => rw [hh] at hF; cases hF
          refine .inl ⟨he, ?_⟩
          have hx0 : (xs.filter fun e => !seen.toArray.contains e.born) = #[] := by rw [← Array.toArray_toList (xs := xs.filter fun e => !seen.toArray.contains e.born), hleft]
          obtain ⟨i, w', hc1, hc2, hc3, hc4, hc5, hc6⟩ := run_chooseNext (P := P) (w := w) (n := 1) (Nat.le_refl _)
          refine ⟨w', ?_, hR.of_heap hc3, ⟨fun b _ => by rw [hc3], by rw [hc3]; exact Nat.le_refl _, hc4, hc5, hc6⟩⟩
          rw [hrun0 #[none] (by rw [hx0]; simp)]
          have hi : i = 0 := by omega
          subst hi
          simp [hc1]
        | cons x0 L0 =>
          have hx0 : (xs.filter fun e => !seen.toArray.contains e.born) = L.toArray := by rw [← hleft]
          have hn1 : 1 ≤ L.length := by rw [hLc]; simp
          obtain ⟨i, w', hc1, hc2, hc3, hc4, hc5, hc6⟩ := run_chooseNext (P := P) (w := w) (n := L.length) hn1
          have hlen := hF.length
          obtain ⟨x, hx⟩ : ∃ x, L[i]? = some x := ⟨_, List.getElem?_eq_getElem hc2⟩
          obtain ⟨en, hen⟩ : ∃ en, (es.filter fun e => !hasNat e.born seen)[i]? = some en := ⟨_, List.getElem?_eq_getElem (by omega)⟩
          obtain ⟨g1, g2, g3⟩ := hF.get hen hx
          refine .inr ⟨en, List.mem_of_getElem? hen, x.key, x.val, g1, g2, fun k r hk => ?_⟩
          rw [appK_eq] at hk
          obtain ⟨m', k1, k2, k3, k4⟩ := setBlkK_some hk
          have hR' := hR.of_heap hc3
          have hobj' : w'.heap[p.blk]? = some (.mapIter (some q.blk) since seen.toArray last) := by rw [hc3]; exact hobj
          obtain ⟨b1, b2, b3⟩ := hR'.setObj (P := P) (m' := m') (b1 := .miter (some id) since (seen ++ [en.born]) c) (ob' := .mapIter (some q.blk) since (seen.toArray.push x.born) c) hb hp rfl rfl rfl rfl k2 k3 k4 hobj' (by simp)
            (fun heap hh => ⟨some q.blk, ⟨q, hq, rfl⟩, by rw [hh, g3]; simp, hbase⟩)
          refine ⟨m', _, k1, k2, ?_, b2, ⟨fun b hF' => by rw [b3.blk b hF', hc3], by rw [← hc3]; exact b3.grow, b3.os.trans hc4, b3.output.trans hc5, b3.tape.trans hc6⟩⟩
          rw [hrun0 (L.map some).toArray (by rw [hx0, hLc]; simp)]
          have hsz : (L.map some).toArray.size = L.length := by simp
          have hget : (L.map some).toArray[i]? = some (some x) := by simp [hx]
          simp only [hsz, Sem.run_bind, hc1, Result.andThen_ok, hget, b1, Sem.run_pure]
  · cases hl
end
end Go.Proofs.YtplgnjpeikamhaaGreatDoor.Xec

namespace Go.Proofs.YtplgnjpeikamhaaGreatDoor.Xec
variable {α β : Type}

/-- an operation has been carried out, or has panicked -/
def StepEnd (P : Program) (T : Tab) (F : Nat → Prop) (c : Ctx) (e : Env) (m : AMem) (w : World) (cs : List Frame) (fr : Frame) (kv : AVal → List ADef → AMode → AMem → Option (List ARes)) (kp : List APan → AMem → Option (List ARes)) (L : List ARes) : Prop :=
  (∃ v ds' cm' m' L1 e' w' cs' V D', kv v ds' cm' m' = some L1 ∧ L1 ⊆ L ∧ VRel e' v V ∧ DefsRel e' ds' D' ∧ Steps P (lone fr cs w) (lone (({ fr with defers := D' } : Frame).finish V) cs' w') ∧
    Rel T F e' m' w' ∧ Ext m e e' ∧ m.next ≤ m'.next ∧ Keep F w w' ∧ CsAfter c cs cs' ∧ CsRel e' c cm' cs') ∨
  (∃ ch m' L1 e' w' C, kp ch m' = some L1 ∧ L1 ⊆ L ∧ ChainRel e' ch C ∧ Steps P (lone fr cs w) (lone (fr.raise C) cs w') ∧ Rel T F e' m' w' ∧ Ext m e e' ∧ m.next ≤ m'.next ∧ Keep F w w')

theorem ModeRel.recover {e : Env} {v : AVal} {older : List APan} {md : FrameMode} (h : ModeRel e (.pan (⟨v, false⟩ :: older)) md) :
    ∃ V C, VRel e v V ∧ md = .panicking ({ v := V, recovered := false, goexit := false } :: C) ∧ ModeRel e (.pan (⟨v, true⟩ :: older)) (.panicking ({ v := V, recovered := true } :: C)) := by
  obtain ⟨C, h1, h2⟩ := h
  cases h1 with
  | cons g1 g2 g3 g4 =>
    rename_i p k
    obtain ⟨pv, pr, pg⟩ := p
    dsimp only at g1 g2 g3
    subst g2; subst g3
    exact ⟨pv, k, g1, h2, _, .cons g1 rfl rfl g4, rfl⟩

theorem norecover {e : Env} {c : Ctx} {cm : AMode} {cs : List Frame} {fr : Frame} (hk : fr.kind = c.kind) (hcs : CsRel e c cm cs) (h : c.dk = false ∨ ∀ v older, cm ≠ .pan (⟨v, false⟩ :: older)) : tryRecover fr cs = none := by
  unfold tryRecover
  rw [hk]
  cases hd : c.dk with
  | false => simp [Ctx.kind, hd]
  | true =>
    rcases h with h | h
    · rw [hd] at h; cases h
    · obtain ⟨caller, rest, rfl, hm⟩ := hcs hd
      simp only [Ctx.kind, hd, if_true]
      split
      · rename_i v older heq
        cases cm with
        | run => rw [heq] at hm; cases hm
        | returning => rw [heq] at hm; cases hm
        | pan ch =>
          obtain ⟨C, h1, h2⟩ := hm
          rw [heq] at h2
          cases h2
          cases h1 with
          | cons g1 g2 g3 g4 =>
            rename_i a l
            obtain ⟨av, ar⟩ := a
            dsimp only at g2
            subst g2
            exact (h _ _ rfl).elim
      · rfl

section
variable {P : Program} {T : Tab} (hT : TabOk P T) {F : Nat → Prop} {run : Run} (hS : Sound P T F run) {e : Env} {m : AMem} {w : World} (hR : Rel T F e m w)
include hT hR

theorem plain_end {c : Ctx} {tm : Tr AVal} {ds : List ADef} {cm : AMode} {o : Oper} {kv : AVal → List ADef → AMode → AMem → Option (List ARes)} {kp : List APan → AMem → Option (List ARes)} {L : List ARes}
    (h : (aplain T (evalO T.ng tm) o.op m fun v m' => kv v ds cm m') = some L) {fr : Frame} {cs : List Frame} (hf : FrB e c tm ds .run fr) (hcs : CsRel e c cm cs)
    {ops : Array Oper} {i : Nat} {rest : List Nat} {K : List Item} (ht : fr.todo = .inRegion ops (i :: rest) :: K) (ho : ops[i]? = some o) (hw : Region.wanted o (yielded ops fr.tmps) = true) (hd : ∀ c, o.op ≠ .defer c) :
    StepEnd P T F c e m w cs fr kv kp L := by
  obtain ⟨a, m', h1, n, w', e', g1, ⟨V, g2, g3⟩, g4, g5, g6, g7⟩ := aplain_ok hT hR (o := o) (fun x a hx => evalO_ok hR hf.tmps x a hx) h
  have hop := g_op (P := P) (cs := cs) (w := w) hf.mode ht ho hw (.inr hd)
  have hle := hR.le g5
  refine .inl ⟨a, ds, cm, m', L, e', w', cs, V, fr.defers, h1, fun _ h => h, g2, hf.defers.mono hle, .one (step_lone_go ?_), g4, g5, g6, g7, CsAfter.refl hcs, hcs.mono hle⟩
  rcases g3 with rfl | ⟨rfl, rfl⟩
  · exact hop.trans (g_apply_value g1)
  · exact hop.trans (g_apply_skip g1)

theorem adefer_ok {ev : Operand → Option AVal} {ρ : Operand → Value} (hev : ∀ x a, ev x = some a → VRel e a (ρ x)) {cl : Call} {ty : TypeId} {k : ADef → Option β} {r : β} (h : adefer ev cl k = some r) :
    ∃ d D, k d = some r ∧ DefRel e d D ∧ (resolve ρ cl ty).run P w = .ok D w := by
  obtain ⟨callee, args, ats⟩ := cl
  unfold adefer at h
  dsimp only at h
  split at h
  · rename_i f l hl
    have hv := evs_ok hev _ _ hl
    split at h
    · rename_i fn first cap hf
      have hf := hev _ _ hf
      simp only [VRel] at hf
      obtain ⟨hny, fs, cs, h1, h2, hf⟩ := hf
      rw [appK_eq] at h
      refine ⟨_, { target := .fn fn cs.toArray, args := fs.toArray ++ args.map ρ }, h, ?_, by simp [resolve, hf, Deferred.ofValue]⟩
      exact ⟨hny, cs, fs ++ args.toList.map ρ, rfl, by rw [← map_arr]; simp, h2, h1.append hv⟩
    · cases h
  · rename_i r0 name l hl
    have hv := evs_ok hev _ _ hl
    split at h
    · rename_i v hr
      refine ⟨_, { target := .fn (.method name) #[], args := #[ρ r0] ++ args.map ρ }, h, ?_, rfl⟩
      exact ⟨fun l hl => (by cases hl), [], ρ r0 :: args.toList.map ρ, rfl, by rw [← map_arr]; simp, VRels.mk_nil e, VRels.mk_cons (hev _ _ hr) hv⟩
    · cases h
  · cases h

include hS

theorem stepOp_ok {c : Ctx} {tm : Tr AVal} {ds : List ADef} {cm : AMode} {o : Oper} {kv : AVal → List ADef → AMode → AMem → Option (List ARes)} {kp : List APan → AMem → Option (List ARes)} {L : List ARes}
    (h : stepOp T run c o tm ds cm m kv kp = some L) {fr : Frame} {cs : List Frame} (hf : FrB e c tm ds .run fr) (hcs : CsRel e c cm cs)
    {ops : Array Oper} {i : Nat} {rest : List Nat} {K : List Item} (ht : fr.todo = .inRegion ops (i :: rest) :: K) (ho : ops[i]? = some o) (hw : Region.wanted o (yielded ops fr.tmps) = true) :
    StepEnd P T F c e m w cs fr kv kp L := by
  have hev : ∀ x a, evalO T.ng tm x = some a → VRel e a (fr.eval x) := fun x a hx => evalO_ok hR hf.tmps x a hx
  have hnc : ∀ d r sv k, fr.todo ≠ .call d true r sv :: k := fun d r sv k hh => by rw [ht] at hh; cases hh
  unfold stepOp at h
  split at h
  · rename_i cl hop
    have hnd : ∀ c, o.op ≠ .defer c := fun c hh => by rw [hop] at hh; cases hh
    have hgo := g_op (P := P) (cs := cs) (w := w) hf.mode ht ho hw (.inr hnd)
    have hex : execOp fr.eval o = (do let d ← resolve fr.eval cl o.type; invoke d.target d.args) := by unfold execOp; rw [hop]
    split at h
    · rename_i hcal
      have hrun : (execOp fr.eval o).run P w = .ok .recover w := by rw [hex]; unfold resolve; rw [hcal]; rfl
      obtain ⟨cmx, hcm⟩ : ∃ x, x = cm := ⟨_, rfl⟩
      rw [← hcm] at h
      split at h
      · rename_i v older hrnd hdk
        subst hcm
        have hr := hf.rnd
        rw [hrnd] at hr
        obtain ⟨caller, rest', rfl, hm⟩ := hcs hdk
        obtain ⟨V, C, g1, g2, g3⟩ := hm.recover
        have htr : tryRecover fr (caller :: rest') = some (V, { caller with mode := .panicking ({ v := V, recovered := true } :: C) } :: rest') := by
          unfold tryRecover
          rw [hf.kind]
          simp [Ctx.kind, hdk, g2]
        exact .inl ⟨v, ds, _, m, L, e, w, _, V, fr.defers, h, fun _ h => h, g1, hf.defers, .one (step_lone_go (hgo.trans (g_apply_recover hrun hr htr))), hR, Ext.refl m e, Nat.le_refl _, Keep.refl F w,
          ⟨fun hd => (by rw [hdk] at hd; cases hd), fun _ => ⟨caller, rest', _, rfl, rfl, fun hh => (by cases hh)⟩⟩, fun _ => ⟨_, rest', rfl, g3⟩⟩
      · rename_i hrnd hno
        subst hcm
        have hr := hf.rnd
        rw [hrnd] at hr
        have htr : tryRecover fr cs = none := norecover hf.kind hcs (by
          cases hd : c.dk with
          | false => exact .inl rfl
          | true => exact .inr fun v older hh => hno v older hd hh)
        exact .inl ⟨.nili, ds, _, m, L, e, w, cs, .nilIface, fr.defers, h, fun _ h => h, (by simp only [VRel]), hf.defers, .one (step_lone_go (hgo.trans (g_apply_norecover hrun hr htr))), hR, Ext.refl m e, Nat.le_refl _, Keep.refl F w, CsAfter.refl hcs, hcs⟩
      · cases h
    · exact plain_end hT hR h hf hcs ht ho hw hnd
    · obtain ⟨ac, h1, h2⟩ := aresolve_ok hT hR (ty := o.type) hev h
      rcases callOp_ok hT hS hR h1 h2 (by rw [hgo, hex]) hnc with ⟨v, m', L1, e', w', V, g1, g2, g3, g4, g5, g6, g7, g8⟩ | ⟨ch, m', L1, e', w', C, g1, g2, g3, g4, g5, g6, g7, g8⟩
      · have hle := hR.le g6
        exact .inl ⟨v, ds, cm, m', L1, e', w', cs, V, fr.defers, g1, g2, g3, hf.defers.mono hle, g4, g5, g6, g7, g8, CsAfter.refl hcs, hcs.mono hle⟩
      · exact .inr ⟨ch, m', L1, e', w', C, g1, g2, g3, g4, g5, g6, g7, g8⟩
  · rename_i cl hop
    split at h
    · rename_i hrnd
      have hr := hf.rnd
      rw [hrnd] at hr
      obtain ⟨d, D, h1, h2, h3⟩ := adefer_ok hT hR (ty := o.type) hev h
      have hgo := g_op (P := P) (cs := cs) (w := w) hf.mode ht ho hw (.inl hr)
      have hrun : (execOp fr.eval o).run P w = .ok (.defer D) w := by unfold execOp; rw [hop]; simp [h3]
      exact .inl ⟨_, _, cm, m, L, e, w, cs, undef, D :: fr.defers, h1, fun _ h => h, undef_rel e, .cons h2 hf.defers, .one (step_lone_go (hgo.trans (g_apply_defer hrun))), hR, Ext.refl m e, Nat.le_refl _, Keep.refl F w, CsAfter.refl hcs, hcs⟩
    · cases h
  · rename_i x hop
    have hnd : ∀ c, o.op ≠ .defer c := fun c hh => by rw [hop] at hh; cases hh
    have hgo := g_op (P := P) (cs := cs) (w := w) hf.mode ht ho hw (.inr hnd)
    split at h
    · rename_i t v hx
      have hx := hev _ _ hx
      have hx2 := hx
      simp only [VRel] at hx
      obtain ⟨u, hu, hx⟩ := hx
      have hrun : (execOp fr.eval o).run P w = .halt (.panic (.iface t u)) w := by unfold execOp; rw [hop]; dsimp only; rw [hx]; rfl
      exact .inr ⟨_, m, L, e, w, [{ v := .iface t u, recovered := false }], h, fun _ h => h, .cons (by rw [← hx]; exact hx2) rfl rfl .nil, .one (step_lone_go (hgo.trans (g_apply_panic hrun))), hR, Ext.refl m e, Nat.le_refl _, Keep.refl F w⟩
    · cases h
  · rename_i x hop
    have hnd : ∀ c, o.op ≠ .defer c := fun c hh => by rw [hop] at hh; cases hh
    have hgo := g_op (P := P) (cs := cs) (w := w) hf.mode ht ho hw (.inr hnd)
    have hex : execOp fr.eval o = (do Pure.pure (.value (← Instr.next (fr.eval x) false o.type))) := by unfold execOp; rw [hop]
    split at h
    · rename_i r0 hx
      have hx := hev _ _ hx
      simp only [VRel] at hx
      obtain ⟨p, hp, hx⟩ := hx
      split at h
      · rename_i id since seen last hb
        rw [AMem.get_blks] at hb
        have hbase : p.base = 0 := by obtain ⟨_, _, _, h3⟩ := hR.real _ _ _ hb hp; exact h3
        rw [hbase, Nat.zero_add] at hx
        split at h
        · rename_i clock left hl
          obtain ⟨hfin, heach⟩ := eachEnt_some _ _ _ _ h
          rcases anextMap_ok (P := P) hR hb hl hp o.type with ⟨hnil, w', g1, g2, g3⟩ | ⟨en, hen, K', V', g1, g2, g3⟩
          · have hrun : (execOp fr.eval o).run P w = .ok (.value (.tuple #[.bool false])) w' := by rw [hex, hx]; simp [g1]
            exact .inl ⟨_, ds, cm, m, L, e, w', cs, _, fr.defers, hfin hnil, fun _ h => h, VRel.rtup (VRels.mk_cons (VRel.rbool ..) (VRels.mk_nil e)), hf.defers, .one (step_lone_go (hgo.trans (g_apply_value hrun))), g2, Ext.refl m e, Nat.le_refl _, g3, CsAfter.refl hcs, hcs⟩
          · obtain ⟨L1, k1, k2⟩ := heach en hen
            obtain ⟨m', w', j1, j2, j3, j4, j5⟩ := g3 _ _ k1
            have hrun : (execOp fr.eval o).run P w = .ok (.value (.tuple #[.bool true, K', V'])) w' := by rw [hex, hx]; simp [j3]
            exact .inl ⟨_, ds, cm, m', L1, e, w', cs, _, fr.defers, j1, k2, VRel.rtup (VRels.mk_cons (VRel.rbool ..) (VRels.two g1 g2)), hf.defers, .one (step_lone_go (hgo.trans (g_apply_value hrun))), j4, Ext.refl m e, by omega, j5, CsAfter.refl hcs, hcs⟩
        · cases h
      · rename_i since seen last hb
        rw [AMem.get_blks] at hb
        obtain ⟨rr, hrr, hobj, hbase⟩ := hR.real _ _ _ hb hp
        dsimp only at hrr
        subst hrr
        rw [hbase, Nat.zero_add] at hx
        have hrun : (execOp fr.eval o).run P w = .ok (.value (.tuple #[.bool false])) w := by
          rw [hex, hx]
          unfold Instr.next
          simp [run_getObj (P := P) hobj (by simp)]
        exact .inl ⟨_, ds, cm, m, L, e, w, cs, _, fr.defers, h, fun _ h => h, VRel.rtup (VRels.mk_cons (VRel.rbool ..) (VRels.mk_nil e)), hf.defers, .one (step_lone_go (hgo.trans (g_apply_value hrun))), hR, Ext.refl m e, Nat.le_refl _, Keep.refl F w, CsAfter.refl hcs, hcs⟩
      · cases h
    · cases h
  · rename_i h1 h2 h3 h4
    exact plain_end hT hR h hf hcs ht ho hw (fun c hh => h2 c hh)
end
end Go.Proofs.YtplgnjpeikamhaaGreatDoor.Xec
