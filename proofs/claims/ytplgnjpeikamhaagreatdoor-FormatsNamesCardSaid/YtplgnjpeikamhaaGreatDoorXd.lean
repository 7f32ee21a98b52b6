/- The executor's steps are the machine's own, part 3. -/
import Derived.Test.YtplgnjpeikamhaaGreatDoorXc
import Derived.Lib.UnsafeStr
set_option linter.unusedSectionVars false
set_option linter.unnecessarySimpa false
set_option linter.unusedVariables false
set_option linter.unusedSimpArgs false
namespace Go.Proofs.YtplgnjpeikamhaaGreatDoor.Xec
variable {α β : Type}

section
variable {P : Program} {T : Tab} (hT : TabOk P T) {F : Nat → Prop} {e : Env} {m : AMem} {w : World} (hR : Rel T F e m w)

theorem VRels.two {e : Env} {a b : AVal} {v u : Value} (h : VRel e a v) (h' : VRel e b u) : VRels e [a, b] [v, u] := VRels.mk_cons h (VRels.mk_cons h' (VRels.mk_nil e))
theorem VRel.rtup {e : Env} {l : List AVal} {vs : List Value} (h : VRels e l vs) : VRel e (.tup l) (.tuple vs.toArray) := by simp only [VRel]; exact ⟨vs, h, rfl⟩

theorem modify_id {xs : Array MapEntry} {i : Nat} {x : MapEntry} {f : MapEntry → MapEntry} (h : xs.toList[i]? = some x) (hf : f x = x) : (xs.modify i f).toList = xs.toList := by
  rw [modify_set h, hf]
  apply List.ext_getElem?
  intro j
  rw [List.getElem?_set]
  split
  · rename_i e1; subst e1
    split
    · exact h.symm
    · rename_i hge; exact (hge (List.getElem?_eq_some_iff.1 h).1).elim
  · rfl

include hT hR

theorem amapEntry_ok {t : TypeId} {x key : AVal} {X K : Value} {k : AVal → AMem → Option β} {r : β} (h : amapEntry T t x key m k = some r) (hx : VRel e x X) (hK : VRel e key K) :
    ∃ a m', k a m' = some r ∧ DidV P T F e m w (Instr.mapEntry t X K) a m' := by
  unfold amapEntry at h
  split at h
  · rename_i kt et id hu
    simp only [VRel] at hx
    obtain ⟨p, hp, rfl⟩ := hx
    cases hf : keyFits T kt key with
    | false => rw [hf] at h; cases h
    | true =>
      rw [hf] at h
      simp only [cond_true] at h
      split at h
      · rename_i es c hb
        rw [AMem.get_blks] at hb
        obtain ⟨xs, hc, hE⟩ := hR.real _ _ p hb hp
        split at h
        · rename_i en hfd
          obtain ⟨x', a1, a2, a3⟩ := find_ok hT hf hK hE w hfd
          obtain ⟨hke, hve, hbo⟩ := hE.get a1 a2
          cases hpe : plainEq en.key key with
          | false => rw [hpe] at h; cases h
          | true =>
            rw [hpe] at h
            simp only [cond_true] at h
            have hkk : x'.key = K := plainEq_det hpe hke hK
            have a2' : xs[idxK T kt key es]? = some x' := by rw [← Array.getElem?_toList]; exact a2
            obtain ⟨b1, b2, b3⟩ := hR.setObj (P := P) (m' := m) (b1 := .map es c) (ob' := .map (xs.modify (idxK T kt key es) fun e => { e with key := K }) c) hb hp rfl rfl rfl rfl rfl rfl
              (fun i => by by_cases e1 : i = id <;> simp [e1, hb]) hc (by simp) (fun heap hh => ⟨_, hh, by rw [modify_id a2 (by rw [← hkk])]; exact hE⟩)
            refine ⟨_, m, h, .tuple #[x'.val, goInt x'.born], _, e, ?_, ?_, b2, Ext.refl m e, Nat.le_refl _, b3⟩
            · unfold Instr.mapEntry
              simp [run_und hT hu, run_getObj (P := P) hc (by simp), check_ok hT hf hK, a3, a2', hkk, keyStays hf hK, b1]
            · have : goInt x'.born = .int .i64 (.ofNat en.born) := by rw [hbo]; rfl
              rw [this]
              exact VRel.rtup (VRels.two hve (VRel.rint ..))
        · rename_i hfd
          have a3 := find_ok hT hf hK hE w hfd
          simp only at a3
          split at h
          · rename_i z hz
            obtain ⟨Z, hZ, hzr, _⟩ := run_zero hT hz w
            rw [appK_eq, natK_eq] at h
            obtain ⟨m', hk, hn, hg, hget⟩ := setBlkK_some h
            obtain ⟨b1, b2, b3⟩ := hR.setObj (P := P) (m' := m') (b1 := .map (es ++ [⟨key, z, c⟩]) (c + 1)) (ob' := .map (xs.push { key := K, val := Z, born := c }) (c + 1)) hb hp rfl rfl rfl rfl hn hg hget hc (by simp)
              (fun heap hh => ⟨_, hh, by simpa using hE.snoc (a := ⟨key, z, c⟩) (x := { key := K, val := Z, born := c }) hK (hzr e) rfl⟩)
            refine ⟨_, m', hk, .tuple #[Z, goInt c], _, e, ?_, VRel.rtup (VRels.two (hzr e) (VRel.rint ..)), b2, Ext.refl m e, by omega, b3⟩
            unfold Instr.mapEntry
            simp [run_und hT hu, run_getObj (P := P) hc (by simp), check_ok hT hf hK, a3, hZ, b1]
          · cases h
        · cases h
      · cases h
  · cases h

omit hT hR in
theorem putBornK_some {born : Nat} {val : AVal} : ∀ (es : List AEnt) (k : List AEnt → Option β) (r : β), putBornK born val es k = some r →
    ∃ i en, es[i]? = some en ∧ en.born = born ∧ (∀ j en', j < i → es[j]? = some en' → en'.born ≠ born) ∧ k (es.set i ⟨en.key, val, en.born⟩) = some r := by
  intro es
  induction es with
  | nil => intro k r h; simp [putBornK] at h
  | cons en es ih =>
    intro k r h
    unfold putBornK at h
    cases hb : Nat.beq en.born born with
    | true => rw [hb] at h; exact ⟨0, en, rfl, beq_nat.1 hb, fun j _ hj => by omega, h⟩
    | false =>
      rw [hb] at h
      obtain ⟨i, en', h1, h2, h3, h4⟩ := ih _ _ h
      refine ⟨i + 1, en', by simpa using h1, h2, fun j en'' hj he => ?_, by simpa using h4⟩
      cases j with
      | zero => simp at he; subst he; exact beq_nat_false.1 hb
      | succ j => exact h3 j en'' (by omega) (by simpa using he)

omit hT in
theorem aentryStore_ok {t : TypeId} {x st val : AVal} {X S V : Value} {k : AMem → Option β} {r : β} (h : aentryStore x st val m k = some r) (hx : VRel e x X) (hS : VRel e st S) (hV : VRel e val V) :
    ∃ m', k m' = some r ∧ DidU P T F e m w (Instr.entryStore t X S V) m' := by
  unfold aentryStore at h
  split at h
  · rename_i id kk born
    simp only [VRel] at hx hS
    obtain ⟨p, hp, rfl⟩ := hx
    subst hS
    split at h
    · rename_i es c hb
      rw [AMem.get_blks] at hb
      obtain ⟨xs, hc, hE⟩ := hR.real _ _ p hb hp
      obtain ⟨i, en, h1, h2, h3, h4⟩ := putBornK_some _ _ _ h
      obtain ⟨m', hk, hn, hg, hget⟩ := setBlkK_some h4
      have hlen := hE.length
      have hi : i < es.length := (List.getElem?_eq_some_iff.1 h1).1
      have hx' : xs.toList[i]? = some xs.toList[i] := List.getElem?_eq_getElem (by omega)
      generalize hxe : xs.toList[i] = x' at hx'
      obtain ⟨hke, hve, hbo⟩ := hE.get h1 hx'
      have hfind : xs.findIdx? (fun e => (e.born : Int) == Int.ofNat born) = some i := by
        rw [show xs.findIdx? (fun e => (e.born : Int) == Int.ofNat born) = xs.toList.findIdx? (fun e => (e.born : Int) == Int.ofNat born) from by rcases xs with ⟨l⟩; simp, List.findIdx?_eq_some_iff_getElem]
        refine ⟨by omega, ?_, fun j hj => ?_⟩
        · rw [hxe, hbo, h2]; simp
        · have hj' : j < es.length := by omega
          have := hE.get (List.getElem?_eq_getElem hj') (List.getElem?_eq_getElem (by omega : j < xs.toList.length))
          have hne := h3 j _ hj (List.getElem?_eq_getElem hj')
          rw [← this.2.2] at hne
          simp only [Array.getElem_toList] at hne
          simp
          omega
      obtain ⟨b1, b2, b3⟩ := hR.setObj (P := P) (m' := m') (b1 := .map (es.set i ⟨en.key, val, en.born⟩) c) (ob' := .map (xs.modify i fun e => { e with val := V }) c) hb hp rfl rfl rfl rfl hn hg hget hc (by simp)
        (fun heap hh => ⟨_, hh, by rw [modify_set hx']; exact hE.set (a := ⟨en.key, val, en.born⟩) (x := { x' with val := V }) hke hV hbo _⟩)
      refine ⟨m', hk, _, ?_, b2, hn, b3⟩
      unfold Instr.entryStore
      simp [run_getObj (P := P) hc (by simp), asInt, asIntOf]
      simp at hfind
      simp [hfind, b1]
    · cases h
  · cases h

omit hT hR in
theorem delEntK_some {t : TypeId} {key : AVal} : ∀ (es : List AEnt) (k : List AEnt → Option β) (r : β), delEntK T t key es k = some r →
    (findK T t key es = some none ∧ k es = some r) ∨ ∃ en, findK T t key es = some (some en) ∧ k (es.eraseIdx (idxK T t key es)) = some r := by
  intro es
  induction es with
  | nil => intro k r h; exact .inl ⟨rfl, h⟩
  | cons en es ih =>
    intro k r h
    unfold delEntK at h
    split at h
    · rename_i hq; exact .inr ⟨en, by simp [findK, hq], by simpa [idxK, hq] using h⟩
    · rename_i hq
      rcases ih _ _ h with ⟨h1, h2⟩ | ⟨en', h1, h2⟩
      · exact .inl ⟨by simp [findK, hq, h1], h2⟩
      · exact .inr ⟨en', by simp [findK, hq, h1], by simpa [idxK, hq] using h2⟩
    · cases h

theorem adelete_ok {t kt et : TypeId} {id : Nat} {key : AVal} {X K : Value} {es : List AEnt} {c : Nat} {ats : Array TypeId} {ty : TypeId} {k : AMem → Option β} {r : β} (hu : T.und t = some (.map kt et)) (hat : ats[0]? = some t) (hf : keyFits T kt key = true)
    (hb : m.get id = some (.map es c)) (h : (delEntK T kt key es fun es' => setBlkK m id (.map es' c) k) = some r) (hx : VRel e (.map id) X) (hK : VRel e key K) :
    ∃ m', k m' = some r ∧ DidV P T F e m w (Builtin.delete_ ats ty #[X, K]) (.tup []) m' := by
  simp only [VRel] at hx
  obtain ⟨p, hp, rfl⟩ := hx
  rw [AMem.get_blks] at hb
  obtain ⟨xs, hc, hE⟩ := hR.real _ _ p hb hp
  rcases delEntK_some _ _ _ h with ⟨h1, h2⟩ | ⟨en, h1, h2⟩
  · obtain ⟨m', hk, hn, hg, hget⟩ := setBlkK_some h2
    have a3 := find_ok hT hf hK hE w h1
    simp only at a3
    obtain ⟨b1, b2, b3⟩ := hR.setObj (P := P) (m' := m') (b1 := .map es c) (ob' := .map xs c) hb hp rfl rfl rfl rfl hn hg hget hc (by simp) (fun heap hh => ⟨_, hh, hE⟩)
    refine ⟨m', hk, .tuple #[], _, e, ?_, undef_rel e, b2, Ext.refl m e, by omega, b3⟩
    unfold Builtin.delete_
    simp [hat, run_und hT hu, run_getObj (P := P) hc (by simp), check_ok hT hf hK, a3, b1]
  · obtain ⟨m', hk, hn, hg, hget⟩ := setBlkK_some h2
    obtain ⟨x', a1, a2, a3⟩ := find_ok hT hf hK hE w h1
    obtain ⟨b1, b2, b3⟩ := hR.setObj (P := P) (m' := m') (b1 := .map (es.eraseIdx (idxK T kt key es)) c) (ob' := .map (xs.eraseIdxIfInBounds (idxK T kt key es)) c) hb hp rfl rfl rfl rfl hn hg hget hc (by simp)
      (fun heap hh => ⟨_, hh, by
        have hi : idxK T kt key es < xs.size := by have := (List.getElem?_eq_some_iff.1 a2).1; simpa using this
        have : (xs.eraseIdxIfInBounds (idxK T kt key es)).toList = xs.toList.eraseIdx (idxK T kt key es) := by
          unfold Array.eraseIdxIfInBounds
          rw [dif_pos hi, Array.toList_eraseIdx]
        rw [this]; exact hE.erase _⟩)
    refine ⟨m', hk, .tuple #[], _, e, ?_, undef_rel e, b2, Ext.refl m e, by omega, b3⟩
    unfold Builtin.delete_
    simp [hat, run_und hT hu, run_getObj (P := P) hc (by simp), check_ok hT hf hK, a3, b1]

/-! ### Iterators -/
theorem arange_ok {t : TypeId} {x : AVal} {X : Value} {k : AVal → AMem → Option β} {r : β} (h : arange T t x m k = some r) (hx : VRel e x X) :
    ∃ a m', k a m' = some r ∧ DidV P T F e m w (Instr.range t X) a m' := by
  have fin : ∀ (o : ABlk) (ob : Obj), (o.grp = none) → newBlkK m o (fun id m' => k (.ptr id 0) m') = some r → (∀ e' heap b, e.le e' → heap[b]? = some ob → Real T e' heap ⟨b, 0, 0⟩ o) →
      ∀ (hrun : (Instr.range t X).run P w = .ok (.pointer (some ⟨w.heap.size, 0, none⟩)) { w with heap := w.heap.push ob }), ∃ a m', k a m' = some r ∧ DidV P T F e m w (Instr.range t X) a m' := by
    intro o ob ho hnb hre hrun
    obtain ⟨m', h2, hn, hg, hb⟩ := newBlkK_some hnb
    have hx' := Ext.add m e ⟨w.heap.size, 0, 0⟩
    obtain ⟨a1, a2, a3⟩ := hR.alloc o ob 0 ho hn hg hb (hre _ _ _ (hR.le hx') (by simp))
    exact ⟨_, m', h2, _, _, _, hrun, by simp only [VRel]; exact ⟨⟨w.heap.size, 0, 0⟩, by simp [Env.add], rfl⟩, a1, a2, by omega, a3⟩
  unfold arange at h
  split at h
  · rename_i s hu
    simp only [VRel] at hx
    obtain ⟨rfl, hs⟩ := hx
    exact fin _ (.stringIter (toBytes s) 0) rfl h (fun e' heap b _ hh => ⟨hh, hs, rfl⟩) (by simp [Instr.range, run_und hT hu])
  · rename_i kt et hu
    simp only [VRel] at hx; subst hx
    exact fin _ (.mapIter none 0 #[] 0) rfl h (fun e' heap b _ hh => ⟨none, rfl, hh, rfl⟩) (by simp [Instr.range, run_und hT hu])
  · rename_i kt et id hu
    simp only [VRel] at hx
    obtain ⟨p, hp, rfl⟩ := hx
    split at h
    · rename_i es c hb
      rw [AMem.get_blks] at hb
      obtain ⟨xs, hc, hE⟩ := hR.real _ _ p hb hp
      exact fin _ (.mapIter (some p.blk) c #[] c) rfl h (fun e' heap b hle hh => ⟨some p.blk, ⟨p, hle.2 _ _ hp, rfl⟩, hh, rfl⟩) (by simp [Instr.range, run_und hT hu, run_getObj (P := P) hc (by simp)])
    · cases h
  · cases h

omit hT hR in
theorem decode_ascii {s : List Nat} {pos c : Nat} (h : s[pos]? = some c) (hc : c < 128) : Utf8.decode (toBytes s) pos = (c, 1) := by
  have hlt : pos < s.length := (List.getElem?_eq_some_iff.1 h).1
  have hg : ((toBytes s).get! (pos + 0)).toNat = c := by
    have hsz : pos < (toBytes s).size := by rw [toBytes_size]; exact hlt
    show ((toBytes s).data[pos + 0]!).toNat = c
    simp only [toBytes, Nat.add_zero]
    rw [List.getElem?_eq_getElem hlt] at h
    cases h
    simp [hlt]
    omega
  unfold Utf8.decode
  simp only [hg]
  rw [if_pos (by omega)]

omit hT in
theorem anext_ok {it : AVal} {I : Value} {ty : TypeId} {k : AVal → AMem → Option β} {r : β} (h : anext it true m k = some r) (hx : VRel e it I) :
    ∃ a m', k a m' = some r ∧ DidV P T F e m w (Instr.next I true ty) a m' := by
  unfold anext at h
  split at h
  · rename_i id
    simp only [VRel] at hx
    obtain ⟨p, hp, rfl⟩ := hx
    split at h
    · rename_i s pos hb _
      rw [AMem.get_blks] at hb
      obtain ⟨hc, hs, hbase⟩ := hR.real _ _ p hb hp
      rw [hbase, Nat.zero_add]
      split at h
      · rename_i hnone
        have hge : s.length ≤ pos := by simpa using hnone
        refine ⟨_, _, h, .pure hR (v := .tuple #[.bool false]) ?_ (VRel.rtup (VRels.mk_cons (VRel.rbool ..) (VRels.mk_nil e)))⟩
        unfold Instr.next
        simp [run_getObj (P := P) hc (by simp), toBytes_size, Nat.not_lt.2 hge]
      · rename_i c hsome
        cases hlt : Nat.blt c 128 with
        | false => rw [hlt] at h; cases h
        | true =>
          rw [hlt] at h
          simp only [cond_true, natK_eq] at h
          have hc128 := blt_nat.1 hlt
          have hpos : pos < s.length := (List.getElem?_eq_some_iff.1 hsome).1
          obtain ⟨m', hk, hn, hg, hget⟩ := setBlkK_some h
          obtain ⟨b1, b2, b3⟩ := hR.setObj (P := P) (m' := m') (b1 := .siter s (pos + 1)) (ob' := .stringIter (toBytes s) (pos + 1)) hb hp rfl rfl rfl rfl hn hg hget hc (by simp) (fun heap hh => ⟨hh, hs, hbase⟩)
          refine ⟨_, m', hk, .tuple #[.bool true, goInt pos, .int .i32 c], _, e, ?_, VRel.rtup (VRels.mk_cons (VRel.rbool ..) (VRels.two (VRel.rint ..) (VRel.rint ..))), b2, Ext.refl m e, by omega, b3⟩
          unfold Instr.next
          simp [run_getObj (P := P) hc (by simp), toBytes_size, hpos, decode_ascii hsome hc128, b1]
    · cases h
  · cases h

omit hT in
theorem aentryAt_ok {id born last since : Nat} {k : AVal → Option β} {r : β} (h : aentryAt id born last m k = some r) {p q : Plc} {arr : Array Nat} (hq : e.pl id = some q) (hc : w.heap[p.blk]? = some (.mapIter (some q.blk) since arr last)) (hback : arr.back? = some born) :
    ∃ a, k a = some r ∧ ∃ v, VRel e a v ∧ (Instr.entry (.pointer (some ⟨p.blk, 0, none⟩))).run P w = .ok v w := by
  unfold aentryAt at h
  split at h
  · rename_i es c hm
    rw [AMem.get_blks] at hm
    obtain ⟨xs, hxs, hE⟩ := hR.real _ _ q hm hq
    cases hcl : Nat.beq c last with
    | false => rw [hcl] at h; cases h
    | true =>
      rw [hcl] at h
      simp only [cond_true] at h
      have hcl' := beq_nat.1 hcl
      subst hcl'
      split at h
      · rename_i en hfd
        have key : ∃ x, xs.find? (·.born == born) = some x ∧ VRel e en.key x.key ∧ VRel e en.val x.val := by
          rw [show xs.find? (·.born == born) = xs.toList.find? (·.born == born) from by rcases xs with ⟨l⟩; simp]
          clear hxs hm
          generalize xs.toList = ys at hE
          induction hE with
          | nil => simp at hfd
          | @cons a0 x0 l0 xs0 h1 h2 h3 _ ih =>
            rw [List.find?_cons] at hfd ⊢
            cases hq2 : Nat.beq a0.born born with
            | true =>
              rw [hq2] at hfd
              cases hfd
              have : (x0.born == born) = true := by rw [h3]; simpa using beq_nat.1 hq2
              rw [this]
              exact ⟨x0, rfl, h1, h2⟩
            | false =>
              rw [hq2] at hfd
              have : (x0.born == born) = false := by rw [h3]; simpa using beq_nat_false.1 hq2
              rw [this]
              exact ih hfd
        obtain ⟨x', hx', hk', hv'⟩ := key
        refine ⟨_, h, .tuple #[x'.key, x'.val], VRel.rtup (VRels.two hk' hv'), ?_⟩
        unfold Instr.entry
        simp [run_getObj (P := P) hc (by simp)]
        try simp at hx'
        simp [hback, run_getObj (P := P) hxs (by simp), hx']
      · cases h
  · cases h

omit hT in
theorem aentry_ok {it : AVal} {I : Value} {k : AVal → Option β} {r : β} (h : aentry it m k = some r) (hx : VRel e it I) :
    ∃ a, k a = some r ∧ ∃ v, VRel e a v ∧ (Instr.entry I).run P w = .ok v w := by
  unfold aentry at h
  split at h
  · rename_i id
    simp only [VRel] at hx
    obtain ⟨p, hp, rfl⟩ := hx
    split at h
    · rename_i mid since seen last hb
      rw [AMem.get_blks] at hb
      obtain ⟨rr, hrr, hc, hbase⟩ := hR.real _ _ p hb hp
      obtain ⟨q, hq, rfl⟩ := hrr
      rw [hbase, Nat.zero_add]
      split at h
      · rename_i born hlast
        exact aentryAt_ok hR h hq hc (by simpa using hlast)
      · cases h
    · rename_i mid since born last hb
      rw [AMem.get_blks] at hb
      obtain ⟨q, hq, hc, hlast, hbase⟩ := hR.real _ _ p hb hp
      rw [hbase, Nat.zero_add]
      exact aentryAt_ok hR h hq hc (by simpa using hlast)
    · cases h
  · cases h
end
end Go.Proofs.YtplgnjpeikamhaaGreatDoor.Xec

namespace Go.Proofs.YtplgnjpeikamhaaGreatDoor.Xec
variable {α β : Type}

theorem nextslicecap_le {need cap : Nat} (h : cap < need) : Builtin.nextslicecap need cap ≤ 2 * need + 256 := by
  have gb : ∀ (n c : Nat), c ≤ 2 * need + 256 → Builtin.growBy need n c ≤ 2 * need + 256 := by
    intro n
    induction n with
    | zero => intro c h; exact h
    | succ n ih =>
      intro c hc
      unfold Builtin.growBy
      split
      · exact hc
      · rename_i hlt
        exact ih _ (by omega)
  unfold Builtin.nextslicecap
  split
  · omega
  · split
    · omega
    · exact gb _ _ (by omega)

section
variable {P : Program} {T : Tab} (hT : TabOk P T) {F : Nat → Prop} {e : Env} {m : AMem} {w : World} (hR : Rel T F e m w)
include hT hR

/-- what is appended, or copied -/
theorem srcK_ok {el : TypeId} {sz : Nat} (hsz : T.size el = some sz) {x : AVal} {X : Value} {k : Nat → List AVal → Option β} {r : β} (h : srcK T el m x k = some r) (hx : VRel e x X) :
    ∃ n cs Vs, k n cs = some r ∧ VRels e cs Vs ∧ Vs.length = n * sz ∧ (∀ w', (Builtin.lenOf X).run P w' = .ok n w') ∧ ∀ c w', c ≤ n → w'.heap = w.heap → (Builtin.firstCells sz c X).run P w' = .ok (Vs.take (c * sz)).toArray w' := by
  unfold srcK at h
  split at h
  · simp only [VRel] at hx; subst hx
    exact ⟨0, [], [], h, VRels.mk_nil e, by simp, fun _ => rfl, fun c w' hc _ => by simp [Builtin.firstCells]⟩
  · simp only [VRel] at hx
    obtain ⟨p, hp, rfl⟩ := hx
    exact ⟨0, [], [], h, VRels.mk_nil e, by simp, fun _ => rfl, fun c w' hc _ => by
      have : c = 0 := by omega
      subst this
      simp [Builtin.firstCells, loadCells, loadCellsFrom]⟩
  · rename_i l
    cases hu8 : isU8 T el with
    | false => rw [hu8] at h; cases h
    | true =>
      rw [hu8] at h
      obtain ⟨_, h1⟩ := isU8_ok hu8
      rw [hsz] at h1; cases h1
      simp only [cond_true, bytesK_eq, lenK_eq, Nat.zero_add] at h
      simp only [VRel] at hx
      obtain ⟨rfl, hl⟩ := hx
      refine ⟨_, _, l.map fun b => Value.int .u8 (.ofNat b), h, bytes_rel e l, by simp, fun _ => by simp [Builtin.lenOf, toBytes_size], fun c w' hc _ => ?_⟩
      simp only [Builtin.firstCells, extract_bytes hT, Nat.sub_zero, List.drop_zero, Nat.mul_one, Sem.run_pure]
      congr 1
      simp only [toBytes, List.map_toArray, List.map_map]
      congr 1
      rw [← List.map_take]
      refine List.map_congr_left fun b hb => ?_
      have := hl b (List.mem_of_mem_take hb)
      simp
      omega
  · rename_i id off len cp
    simp only [VRel] at hx
    obtain ⟨p, n, hp, hc, rfl⟩ := hx
    rw [hsz] at h
    dsimp only at h
    split at h
    · rename_i cs hcs
      obtain ⟨vs, hv, hlen, el', g, gb, fz, st, ex, kk, cc, c, fr, hb, hle, hc', hk, hg⟩ := cells_ok hR hp hcs
      refine ⟨_, _, vs, h, hv, hlen, fun _ => rfl, fun q w' hq hw' => ?_⟩
      have hqs : q * sz ≤ len * sz := Nat.mul_le_mul_right _ hq
      simp only [Builtin.firstCells]
      refine run_cells (by simp; omega) fun i hi => ?_
      rw [cell?_of (by rw [hw']; exact hc'), show p.base + off + i = p.base + (off + i) from by omega, hg i (by omega), List.getElem?_take]
      simp [hi]
    · cases h
  · cases h

omit hR in
theorem growOk_ok (w : World) {el : TypeId} {need sz : Nat} (hsz : T.size el = some sz) (h : growOk T el need = true) : ∃ i Z, T.ti el = some i ∧ i.bytes ≤ 4096 ∧ need ≤ 1000000 ∧ (∀ w', (zeroValue el).run P w' = .ok Z w') ∧ Z.cells.size = sz := by
  unfold growOk at h
  split at h
  · rename_i i z hi hz
    simp only [Bool.and_eq_true] at h
    obtain ⟨⟨h1, h2⟩, h3⟩ := h
    obtain ⟨Z, hZ, hzr, hl⟩ := run_zero hT hz w
    refine ⟨i, Z, hi, ble_nat.1 h1, ble_nat.1 h3, fun w' => ?_, ?_⟩
    · obtain ⟨Z', hZ', hzr', hl'⟩ := run_zero hT hz w'
      have : (zeroValue el).run P w = .ok Z w := hZ
      unfold zeroValue at hZ hZ' ⊢
      simp only [Sem.run_bind, run_info hT hi, Result.andThen_ok] at hZ hZ' ⊢
      cases hzz : i.zero with
      | none => rw [hzz] at hZ; simp at hZ
      | some q => rw [hzz] at hZ; simp at hZ; subst hZ; simp
    · have h4 := ((hzr ⟨fun _ => none, fun _ => undef, fun _ => []⟩).cells' hl).length
      rw [beq_nat.1 h2] at h4
      unfold Tab.size at hsz
      rw [hi] at hsz
      simp only [Option.some.injEq] at hsz
      simpa [hsz] using h4
  · cases h

omit hR in
/-- append where there is no room -/
theorem append_grows (w : World) {ats : Array TypeId} {ty st el : TypeId} {t2 : TypeId} {d2 : TypeDesc} {sz n sLen sCap need : Nat} {base : Option Addr} {X : Value} {old new : List Value}
    (ha : ats[0]? = some st) (ha2 : ats[1]? = some t2) (hu2 : T.und t2 = some d2) (hd2 : ∀ k, d2 ≠ .int k) (hu : T.und st = some (.slice el)) (hsz : T.size el = some (sz + 1)) (hneed : need = sLen + n) (hlen : (Builtin.lenOf X).run P w = .ok n w) (hno : ¬ need ≤ sCap)
    (hg : growOk T el need = true) (h1 : ∀ w', w'.heap = w.heap → (Builtin.firstCells (sz + 1) sLen (.slice base sLen sCap)).run P w' = .ok old.toArray w') (h2 : ∀ w', w'.heap = w.heap → (Builtin.firstCells (sz + 1) n X).run P w' = .ok new.toArray w')
    (hol : old.length = sLen * (sz + 1)) (hnl : new.length = n * (sz + 1)) :
    ∃ cap tail, need ≤ cap ∧ cap * (sz + 1) ≤ (old ++ new).length + tail.length ∧
      (Builtin.append_ ats ty #[.slice base sLen sCap, X]).run P w = .ok (.slice (some ⟨w.heap.size, 0, none⟩) need cap) { { w with drawn := w.drawn + 1 } with heap := w.heap.push (.cells (old ++ new ++ tail).toArray el) } := by
  obtain ⟨i, Z, hi, hib, hnd, hZ, hZs⟩ := growOk_ok hT w hsz hg
  have hcut : need ≤ (Question.appendCap need sCap el).cut (w.tape w.drawn (Question.appendCap need sCap el)) := by simp only [Question.cut]; omega
  obtain ⟨cap, hcap⟩ : ∃ cap, cap = (Question.appendCap need sCap el).cut (w.tape w.drawn (Question.appendCap need sCap el)) := ⟨_, rfl⟩
  rw [← hcap] at hcut
  have hch : (choose (.appendCap need sCap el)).run P w = .ok cap { w with drawn := w.drawn + 1 } := by
    rw [run_choose]; simp [Question.forced, hcap]
  refine ⟨cap, (Builtin.zeroCells Z.cells (cap - need)).toList, hcut, ?_, ?_⟩
  · simp only [Builtin.zeroCells, List.length_append, hol, hnl, Array.length_toList, Array.size_map, Array.size_range, hZs]
    have : cap = sLen + n + (cap - need) := by omega
    calc cap * (sz + 1) = (sLen + n + (cap - need)) * (sz + 1) := by rw [← this]
      _ = sLen * (sz + 1) + n * (sz + 1) + (cap - need) * (sz + 1) := by rw [Nat.add_mul, Nat.add_mul]
      _ ≤ _ := Nat.le_refl _
  · have hb : ¬ (Builtin.nextslicecap need sCap * i.bytes > 2 ^ 48) := by
      have := nextslicecap_le (Nat.lt_of_not_le hno)
      have h3 : Builtin.nextslicecap need sCap * i.bytes ≤ 2000256 * 4096 := Nat.mul_le_mul (by omega) hib
      omega
    have hmax : ¬ ((need : Int) > IntKind.i64.max) := by
      show ¬ ((need : Int) > 9223372036854775807)
      omega
    unfold Builtin.append_
    simp only [ha, ha2]
    simp only [List.getElem?_toArray, List.getElem?_cons_zero, List.getElem?_cons_succ, Sem.run_bind, run_und hT hu, Result.andThen_ok, run_size hT hsz, run_und hT hu2, Sem.run_pure]
    subst hneed
    rw [if_neg Bool.false_ne_true]
    simp only [Sem.run_bind, hlen, Result.andThen_ok]
    rw [if_neg hno]
    simp only [Sem.run_bind, run_info hT hi, Result.andThen_ok]
    rw [if_neg (fun hh => hmax hh.1)]
    simp only [Sem.run_bind, run_info hT hi, Result.andThen_ok]
    rw [if_neg hb]
    simp only [Sem.run_bind, hch, run_info hT hi, Result.andThen_ok, run_askRoom, h1 { w with drawn := w.drawn + 1 } rfl, Bool.not_false, if_true, h2 { w with drawn := w.drawn + 1 } rfl, hZ, newRow, run_newObj, Sem.run_pure]
    simp
    congr 2
    apply Array.ext'
    simp

omit hR in
/-- append where there is room -/
theorem append_fits (w : World) {ats : Array TypeId} {ty st el : TypeId} {t2 : TypeId} {d2 : TypeDesc} {sz n sLen sCap : Nat} {a : Addr} {X : Value} {new : List Value} {w' : World}
    (ha : ats[0]? = some st) (ha2 : ats[1]? = some t2) (hu2 : T.und t2 = some d2) (hd2 : ∀ k, d2 ≠ .int k) (hu : T.und st = some (.slice el)) (hsz : T.size el = some (sz + 1)) (hlen : (Builtin.lenOf X).run P w = .ok n w) (hfit : sLen + n ≤ sCap)
    (h2 : (Builtin.firstCells (sz + 1) n X).run P w = .ok new.toArray w) (h3 : (storeCells (a.add (sLen * (sz + 1))) new).run P w = .ok () w') :
    (Builtin.append_ ats ty #[.slice (some a) sLen sCap, X]).run P w = .ok (.slice (some a) (sLen + n) sCap) w' := by
  unfold Builtin.append_
  simp only [ha, ha2]
  simp only [List.getElem?_toArray, List.getElem?_cons_zero, List.getElem?_cons_succ, Sem.run_bind, run_und hT hu, Result.andThen_ok, run_size hT hsz, run_und hT hu2, Sem.run_pure]
  rw [if_neg Bool.false_ne_true]
  simp only [Sem.run_bind, hlen, Result.andThen_ok]
  rw [if_pos hfit]
  simp only [Sem.run_bind, Bool.not_false, if_true, h2, Result.andThen_ok, h3, Sem.run_pure]
end
end Go.Proofs.YtplgnjpeikamhaaGreatDoor.Xec

namespace Go.Proofs.YtplgnjpeikamhaaGreatDoor.Xec
variable {α β : Type}

theorem regroupK_some {T : Tab} {F : Nat → Prop} {e : Env} {m : AMem} {w : World} (hR : Rel T F e m w) {id : Nat} {el : TypeId} {grp : Option Nat} {gb fz : Nat} {st ex : Bool} {n : Nat} {cs : Tr AVal}
    (h0 : m.blks.get id = some (.row el grp gb fz st ex n cs)) {k : Nat → AMem → Option β} {r : β} (h : regroupK m id el grp gb fz st ex n cs k = some r) :
    ∃ g m', k g m' = some r ∧ Rel T F e m' w ∧ m'.next = m.next ∧ m'.blks.get id = some (.row el (some g) gb fz st ex n cs) := by
  unfold regroupK at h
  split at h
  · rename_i g
    exact ⟨g, m, h, hR, rfl, h0⟩
  · obtain ⟨b, nx, gs⟩ := m
    dsimp only at h
    split at h
    · rename_i hnone
      obtain ⟨gs', h1, hg1⟩ := Tr.setK_some _ _ _ _ _ _ h
      obtain ⟨b', h2, hb2⟩ := Tr.setK_some _ _ _ _ _ _ h1
      have h0' : b.get id = some (.row el none gb fz st ex n cs) := h0
      refine ⟨id, _, h2, ⟨?_, ?_, ?_, ?_, ?_, hR.size, hR.glob⟩, rfl, by show b'.get id = _; rw [hb2]; simp⟩
      · intro i blk p hi hp
        change b'.get i = some blk at hi
        rw [hb2] at hi
        by_cases e1 : i = id
        · subst e1; simp at hi; subst hi; exact (hR.real i (.row el none gb fz st ex n cs) p h0' hp : Real T e w.heap p (.row el none gb fz st ex n cs))
        · rw [if_neg e1] at hi; exact hR.real i blk p hi hp
      · intro i j p q bi bj hij hi hj hp hq hpq
        change b'.get i = some bi at hi
        change b'.get j = some bj at hj
        rw [hb2] at hi hj
        by_cases e1 : i = id
        · subst e1
          rw [if_neg (Ne.symm hij)] at hj
          obtain ⟨g, g1, _⟩ := hR.sep i j p q _ bj hij h0' hj hp hq hpq
          cases g1
        · rw [if_neg e1] at hi
          by_cases e2 : j = id
          · subst e2
            obtain ⟨g, _, g2, _⟩ := hR.sep i j p q bi _ hij hi h0' hp hq hpq
            cases g2
          · rw [if_neg e2] at hj
            exact hR.sep i j p q bi bj hij hi hj hp hq hpq
      · intro i blk g hi hg
        change b'.get i = some blk at hi
        show ∃ l, gs'.get g = some l ∧ i ∈ l
        rw [hb2] at hi
        by_cases e1 : i = id
        · subst e1; simp at hi; subst hi; cases hg
          exact ⟨[i], by rw [hg1]; simp, by simp⟩
        · rw [if_neg e1] at hi
          obtain ⟨l, hl, hil⟩ := hR.grp i blk g hi hg
          have : g ≠ id := fun e2 => by subst e2; change gs.get g = some l at hl; rw [hnone] at hl; cases hl
          exact ⟨l, by rw [hg1, if_neg this]; exact hl, hil⟩
      · intro i hi
        refine ⟨(hR.fresh i hi).1, ?_⟩
        show b'.get i = none
        have : i ≠ id := fun e1 => by subst e1; have := (hR.fresh i hi).2; change b.get i = none at this; rw [this] at h0'; cases h0'
        rw [hb2, if_neg this]
        exact (hR.fresh i hi).2
      · intro i blk p hi hp
        change b'.get i = some blk at hi
        rw [hb2] at hi
        by_cases e1 : i = id
        · subst e1; exact hR.frame i _ p h0' hp
        · rw [if_neg e1] at hi; exact hR.frame i blk p hi hp
    · cases h

/-- the siblings may go -/
theorem Rel.less {T : Tab} {F : Nat → Prop} {e : Env} {m m' : AMem} {w : World} (h : Rel T F e m w) (hn : m'.next = m.next) (hg : m'.grps = m.grps) (hget : ∀ j, m'.blks.get j = m.blks.get j ∨ m'.blks.get j = none) : Rel T F e m' w := by
  have back : ∀ j b, m'.blks.get j = some b → m.blks.get j = some b := fun j b hb => by
    rcases hget j with h' | h' <;> rw [h'] at hb
    · exact hb
    · cases hb
  refine ⟨fun i b p hi hp => h.real i b p (back i b hi) hp, fun i j p q b b' hij hi hj => h.sep i j p q b b' hij (back i b hi) (back j b' hj), fun i b g hi hbg => by rw [hg]; exact h.grp i b g (back i b hi) hbg, fun i hi => ?_, fun i b p hi hp => h.frame i b p (back i b hi) hp, h.size, h.glob⟩
  rw [hn] at hi
  refine ⟨(h.fresh i hi).1, ?_⟩
  rcases hget i with h' | h'
  · rw [h']; exact (h.fresh i hi).2
  · exact h'

theorem joinK_some {m : AMem} {g : Nat} {o : ABlk} {k : Nat → AMem → Option β} {r : β} (h : joinK m g o k = some r) :
    ∃ m', k m.next m' = some r ∧ m'.next = m.next + 1 ∧ (∃ l, m'.grps.get g = some l ∧ m.next ∈ l) ∧ (∀ g l, m.grps.get g = some l → ∃ l', m'.grps.get g = some l' ∧ ∀ x ∈ l, x ∈ l') ∧
      ∀ i, m'.blks.get i = if i = m.next then some o else m.blks.get i := by
  obtain ⟨b, nx, gs⟩ := m
  unfold joinK at h
  dsimp only at h
  split at h
  · rename_i l hl
    obtain ⟨gs', h1, hg1⟩ := Tr.setK_some _ _ _ _ _ _ h
    obtain ⟨m', h2, hn, hgr, hb⟩ := newBlkK_some h1
    refine ⟨m', h2, hn, ⟨nx :: l, by rw [hgr, hg1]; simp, by simp⟩, fun g' l' hl' => ?_, hb⟩
    rw [hgr]
    show ∃ l'', gs'.get g' = some l'' ∧ _
    rw [hg1]
    by_cases e1 : g' = g
    · subst e1
      have : l' = l := by have := hl'.symm.trans hl; simpa using this
      subst this
      exact ⟨nx :: l', by simp, fun x hx => List.mem_cons_of_mem _ hx⟩
    · exact ⟨l', by rw [if_neg e1]; exact hl', fun x hx => hx⟩
  · cases h

section
variable {P : Program} {T : Tab} (hT : TabOk P T) {F : Nat → Prop} {e : Env} {m : AMem} {w : World} (hR : Rel T F e m w)
include hT hR

/-- a new row of what was, and what is appended -/
theorem newGrown {el : TypeId} {sz : Nat} (hsz : T.size el = some sz) {cs : List AVal} {Vs tail : List Value} (hv : VRels e cs Vs) {cap need : Nat} (hneed : need ≤ cap) (hcap : cap * sz ≤ Vs.length + tail.length)
    {k : AVal → AMem → Option β} {r : β} (h : (fillK cs 0 .lf fun t c => newBlkK m (.row el none 0 0 false false c t) fun id m' => natK need fun n => k (.slice id 0 n (.u 0)) m') = some r)
    {s : Sem Value} (hrun : s.run P w = .ok (.slice (some ⟨w.heap.size, 0, none⟩) need cap) { { w with drawn := w.drawn + 1 } with heap := w.heap.push (.cells (Vs ++ tail).toArray el) }) :
    ∃ a m', k a m' = some r ∧ DidV P T F e m w s a m' := by
  obtain ⟨t, h1, ht⟩ := fillK_some _ _ _ _ _ h
  obtain ⟨m', h2, hn, hg, hb⟩ := newBlkK_some h1
  rw [natK_eq] at h2
  have hR1 : Rel T F e m { w with drawn := w.drawn + 1 } := hR.of_heap rfl
  have hx := Ext.add m e ⟨w.heap.size, 0, cap⟩
  have hle := hR.le hx
  obtain ⟨a1, a2, a3⟩ := hR1.alloc (.row el none 0 0 false false (0 + cs.length) t) (.cells (Vs ++ tail).toArray el) cap rfl hn hg hb (by
    have := newRow_real (T := T) (e := e.add m.next ⟨w.heap.size, 0, cap⟩) el cs Vs tail (hv.mono hle) t ht false false (0, 0) cap (.inl rfl) (fun s hs => by rw [hsz] at hs; cases hs; exact hcap) (by simp) (w.heap.push (.cells (Vs ++ tail).toArray el)) w.heap.size (by simp)
    simpa using this)
  exact ⟨_, m', h2, .slice (some ⟨w.heap.size, 0, none⟩) need cap, _, _, hrun, by simp only [VRel]; exact ⟨⟨w.heap.size, 0, cap⟩, cap, by simp [Env.add], ⟨by simp, by simpa using hneed⟩, rfl⟩, a1, a2, by omega,
    Keep.trans (b := { w with drawn := w.drawn + 1 }) ⟨fun _ _ => rfl, Nat.le_refl _, rfl, rfl, rfl⟩ a3⟩

set_option maxHeartbeats 1000000 in
theorem append_joins {ats : Array TypeId} {ty st t2 el : TypeId} {d2 : TypeDesc} {X : Value} (ha : ats[0]? = some st) (ha2 : ats[1]? = some t2) (hu2 : T.und t2 = some d2) (hd2 : ∀ k, d2 ≠ .int k) (hu : T.und st = some (.slice el))
    {sz n : Nat} (hsz : T.size el = some (sz + 1)) {new : List AVal} {Vs : List Value} (hnew : VRels e new Vs) (hnl : Vs.length = (n + 1) * (sz + 1)) (hlen : ∀ w', (Builtin.lenOf X).run P w' = .ok (n + 1) w')
    (hfn : ∀ w', w'.heap = w.heap → (Builtin.firstCells (sz + 1) (n + 1) X).run P w' = .ok Vs.toArray w') {id off len eo : Nat} {p : Plc} (hp : e.pl id = some p) (hlc : eo + len ≤ p.cap)
    {g : Option Nat} {gb fz cnt : Nat} {st' ex : Bool} {cs : Tr AVal} (hb : m.blks.get id = some (.row el g gb fz st' ex cnt cs)) {old : List AVal} (hold : m.cells id off (len * (sz + 1)) = some old)
    (q2 : fz ≤ cnt) (q3 : off + len * (sz + 1) = cnt) (q4 : off = eo * (sz + 1)) (hsing : allSingle new = true) (hg : growOk T el (len + (n + 1)) = true) {k : AVal → AMem → Option β} {r : β}
    (h1 : (regroupK m id el g gb fz st' ex cnt cs fun g' m1 => strikeK m1 id (some g') (gb + cnt + 1) fun m2 =>
        appK old new fun all => fillK all 0 Tr.lf fun t cnt' => joinK m2 g' (.row el (some g') (gb + off) (fz - off) st' false cnt' t) fun id' m' => natK (len + (n + 1)) fun l => k (.slice id' 0 l (.u 0)) m') = some r) :
    ∃ a m', k a m' = some r ∧ DidV P T F e m w (Builtin.append_ ats ty #[.slice (some ⟨p.blk, p.base + off, none⟩) len (p.cap - eo), X]) a m' := by
  obtain ⟨g', m1, h2, hR1, hn1, hb1⟩ := regroupK_some hR hb h1
  obtain ⟨m2, h3, hn2, hg2, hid2, hget2, hsib2⟩ := strikeK_some hR1 hb1 _ _ _ h2
  have hR2 : Rel T F e m2 w := hR1.less hn2 hg2 fun j => by
    by_cases e1 : j = id
    · subst e1; exact .inl (hid2.trans hb1.symm)
    · exact hget2 j e1
  rw [appK_eq] at h3
  obtain ⟨t, h4, ht⟩ := fillK_some _ _ _ _ _ h3
  obtain ⟨m3, h5, hn3, hl3, hgr3, hb3⟩ := joinK_some h4
  rw [natK_eq] at h5
  obtain ⟨vs, hv, hvl, el', g2, gb2, fz2, st2, ex2, kk, cc, cr, fr, hb', hle', hc', hk, hgc⟩ := cells_ok hR hp hold
  rw [hb] at hb'
  cases hb'
  obtain ⟨c, fr', hcr, hcell, hfr, hnc, hcap, hex⟩ := hR.real id _ p hb hp
  rw [hc'] at hcr
  cases hcr
  have hcs := hcap _ hsz
  have hall := hv.append hnew
  have hsum : len * (sz + 1) + (n + 1) * (sz + 1) = (len + (n + 1)) * (sz + 1) := by rw [← Nat.add_mul]
  have hal : (old ++ new).length = (len + (n + 1)) * (sz + 1) := by
    have h1 := hv.length
    have h2 := hnew.length
    simp only [List.length_append]
    omega
  have hnx : m2.next = m.next := hn2.trans hn1
  by_cases hfit : len + (n + 1) ≤ p.cap - eo
  · -- there is room
    have hroom : p.base + cnt + (n + 1) * (sz + 1) ≤ cr.size := by
      have h1 : (eo + (len + (n + 1))) * (sz + 1) ≤ p.cap * (sz + 1) := Nat.mul_le_mul_right _ (by omega)
      rw [Nat.add_mul, ← hsum] at h1
      omega
    obtain ⟨w', c', hrun, hset, hsz', hx'⟩ := run_storeRow (P := P) (b := p.blk) (o := p.base + cnt) (el := el) (fr := fr) Vs 0 cr w hc' (hnew.one hsing) (by omega) (fun x hx1 hx2 => hfr.free (by omega) (by omega))
    obtain ⟨hR3, hkeep⟩ := hR2.upd (m' := m2) (w' := w') (b1 := .row el (some g') gb fz st' ex cnt cs) hid2 hp rfl rfl hid2 (fun j _ => .inl rfl) rfl rfl hset.other hset.size
      ⟨c', fr, hset.row, fun i hi => by
        obtain ⟨a, v, h1, h2, h3⟩ := hcell i hi
        exact ⟨a, v, h1, by rw [hx', if_neg (by omega)]; exact h2, h3⟩, by rw [hsz']; exact hfr, by omega, fun s hs' => by rw [hsz']; exact hcap s hs', fun h' => by rw [hsz']; exact hex h'⟩
      (fun j q b hj hbj hq hqp => by
        obtain ⟨⟨g'', hgg, hgg', hco⟩, el', g3, gb', fz', st3, ex', n', cs', rfl, hlt⟩ := hsib2 j p q b hj hbj hp hq hqp
        obtain ⟨cq, frq, hcq, hcellq, hfrq, hncq, hcapq, hexq⟩ := hR2.real j _ q hbj hq
        rw [hqp, hc'] at hcq
        cases hcq
        simp only [ABlk.gb] at hco
        refine ⟨c', fr, by rw [hqp]; exact hset.row, fun i hi => ?_, by rw [hsz']; exact hfrq, by omega, fun s hs' => by rw [hsz']; exact hcapq s hs', fun h' => by rw [hsz']; exact hexq h'⟩
        obtain ⟨a, v, h1, h2, h3⟩ := hcellq i hi
        exact ⟨a, v, h1, by rw [hx', if_neg (by omega)]; exact h2, h3⟩) hset.os hset.output hset.tape
    have hxt := Ext.add m2 e ⟨p.blk, p.base + off, p.cap - eo⟩
    have hle := hR3.le hxt
    obtain ⟨a1, a2⟩ := hR3.share (.row el (some g') (gb + off) (fz - off) st' false (0 + (old ++ new).length) t) off (p.cap - eo) hid2 hp rfl rfl rfl hl3 hn3 hgr3 hb3
      ⟨c', fr, hset.row, fun i hi => by
        rw [Nat.zero_add] at hi
        have h1 : (old ++ new)[i]? = some (old ++ new)[i] := List.getElem?_eq_getElem hi
        obtain ⟨v, hv1, hr1⟩ := hall.get h1
        refine ⟨(old ++ new)[i], v, by rw [ht, if_pos (by omega)]; simpa using h1, ?_, hr1.mono hle⟩
        by_cases e1 : i < len * (sz + 1)
        · rw [hx', if_neg (by simp only; omega)]
          rw [List.getElem?_append_left (by omega)] at hv1
          rw [← hv1, ← hgc i e1]; congr 1; simp only; omega
        · rw [hx', if_pos (by simp only; omega)]
          rw [List.getElem?_append_right (by omega)] at hv1
          rw [← hv1]; congr 1; simp only; omega,
       by
        rw [hsz']
        rcases hfr with hfr | hfr
        · exact .inl hfr
        · refine .inr ?_
          by_cases hst : st' = true
          · rw [if_pos hst] at hfr ⊢; exact hfr
          · rw [if_neg hst] at hfr ⊢; simp only; omega,
       by simp only [Nat.zero_add]; rw [hal, hsz']; omega, fun s hs' => by
        rw [hsz] at hs'; cases hs'
        rw [hsz']
        have h1 : eo * (sz + 1) + (p.cap - eo) * (sz + 1) = p.cap * (sz + 1) := by rw [← Nat.add_mul]; congr 1; omega
        simp only
        omega, by simp⟩
    refine ⟨_, m3, h5, .slice (some ⟨p.blk, p.base + off, none⟩) (len + (n + 1)) (p.cap - eo), w', _, append_fits hT w ha ha2 hu2 hd2 hu hsz (hlen w) hfit (hfn w rfl) ?_, ?_, a1, ?_, by omega, hkeep⟩
    · rw [add_none, show p.base + off + len * (sz + 1) = p.base + cnt from by omega]
      exact hrun
    · simp only [VRel]
      exact ⟨⟨p.blk, p.base + off, p.cap - eo⟩, p.cap - eo, by simp [Env.add], ⟨by simp, by simpa using hfit⟩, rfl⟩
    · exact ⟨a2.sy, a2.it, fun i hi => a2.pl i (by omega)⟩
  · -- there is none
    obtain ⟨cap, tail, hc1, hc2, hrun⟩ := append_grows hT w (sLen := len) (sCap := p.cap - eo) (base := some ⟨p.blk, p.base + off, none⟩) (need := len + (n + 1)) (old := vs) (new := Vs) (ty := ty) ha ha2 hu2 hd2 hu hsz rfl (hlen w) hfit hg
      (fun w' hw' => run_cells hvl fun i hi => by rw [cell?_of (by rw [hw']; exact hc'), show p.base + off + i = p.base + (off + i) from by omega]; exact hgc i hi) (fun w' hw' => hfn w' hw') hvl hnl
    have hR2' : Rel T F e m2 { w with drawn := w.drawn + 1 } := hR2.of_heap rfl
    have hxt := Ext.add m2 e ⟨w.heap.size, 0, cap⟩
    have hle := hR2.le hxt
    have hreal := newRow_real (T := T) (e := e.add m2.next ⟨w.heap.size, 0, cap⟩) el (old ++ new) (vs ++ Vs) tail (hall.mono hle) t ht false false (0, 0) cap (.inl rfl) (fun s hs => by rw [hsz] at hs; cases hs; exact hc2) (by simp) (w.heap.push (.cells (vs ++ Vs ++ tail).toArray el)) w.heap.size (by simp)
    obtain ⟨c9, fr9, z1, z2, z3, z4, z5, z6⟩ := hreal
    have hfr9 : fr9 = (0, 0) := by simp at z1; exact z1.2.symm
    obtain ⟨a1, a2, a3⟩ := hR2'.allocG (.row el (some g') (gb + off) (fz - off) st' false (0 + (old ++ new).length) t) (.cells (vs ++ Vs ++ tail).toArray el) cap (fun g'' hgg => by cases hgg; exact hl3) hn3 hgr3 hb3
      ⟨c9, fr9, z1, by rw [Nat.zero_add]; exact z2, by rw [hfr9]; exact .inl rfl, by rw [Nat.zero_add]; exact z4, z5, by simp⟩
    refine ⟨_, m3, h5, .slice (some ⟨w.heap.size, 0, none⟩) (len + (n + 1)) cap, _, _, hrun, ?_, a1, ⟨a2.sy, a2.it, fun i hi => a2.pl i (by omega)⟩, by omega, Keep.trans (b := { w with drawn := w.drawn + 1 }) ⟨fun _ _ => rfl, Nat.le_refl _, rfl, rfl, rfl⟩ a3⟩
    simp only [VRel]
    exact ⟨⟨w.heap.size, 0, cap⟩, cap, by simp [Env.add], ⟨by simp, by simpa using hc1⟩, rfl⟩

set_option maxHeartbeats 1000000 in
theorem aappend_ok {ats : Array TypeId} {ty st t2 : TypeId} {d2 : TypeDesc} {s x : AVal} {S X : Value} (ha : ats[0]? = some st) (ha2 : ats[1]? = some t2) (hu2 : T.und t2 = some d2) (hd2 : ∀ k, d2 ≠ .int k)
    {k : AVal → AMem → Option β} {r : β} (h : aappend T st s x m k = some r) (hs : VRel e s S) (hx : VRel e x X) :
    ∃ a m', k a m' = some r ∧ DidV P T F e m w (Builtin.append_ ats ty #[S, X]) a m' := by
  unfold aappend at h
  split at h
  · rename_i el hu
    split at h
    · rename_i sz hsz
      obtain ⟨n, new, Vs, h1, hnew, hnl, hlen, hfc⟩ := srcK_ok hT hR hsz h hx
      have hfn : ∀ w', w'.heap = w.heap → (Builtin.firstCells (sz + 1) n X).run P w' = .ok Vs.toArray w' := fun w' hw' => by
        have := hfc n w' (Nat.le_refl _) hw'
        rwa [List.take_of_length_le (by omega)] at this
      cases n with
      | zero =>
        dsimp only at h1
        have hV : Vs = [] := by simpa using hnl
        subst hV
        split at h1
        · simp only [VRel] at hs; subst hs
          refine ⟨_, _, h1, .pure hR (v := .slice none 0 0) ?_ (by simp only [VRel])⟩
          unfold Builtin.append_
          simp only [ha, ha2]
          simp only [List.getElem?_toArray, List.getElem?_cons_zero, List.getElem?_cons_succ, Sem.run_bind, run_und hT hu, Result.andThen_ok, run_size hT hsz, run_und hT hu2, Sem.run_pure]
          rw [if_neg Bool.false_ne_true]
          simp only [Sem.run_bind, hlen, Result.andThen_ok]
          rw [if_pos (by omega)]
          simp only [Sem.run_bind, Bool.not_false, if_true, hfn w rfl, Result.andThen_ok, Sem.run_pure]
        · rename_i id off len cp
          obtain ⟨p, c, hp, hc, rfl⟩ : ∃ p n, e.pl id = some p ∧ cp.rel p len n ∧ S = .slice (some ⟨p.blk, p.base + off, none⟩) len n := by simpa only [VRel] using hs
          have hlc : len ≤ c := by cases cp <;> simp only [ACap.rel] at hc <;> omega
          exact ⟨_, _, h1, .pure hR (append_fits hT w ha ha2 hu2 hd2 hu hsz (hlen w) (by omega) (hfn w rfl) (by simp [storeCells])) hs⟩
        · rename_i id
          obtain ⟨p, hp, rfl⟩ : ∃ p, e.pl id = some p ∧ S = .slice (some ⟨p.blk, p.base, none⟩) 0 p.cap := by simpa only [VRel] using hs
          exact ⟨_, _, h1, .pure hR (append_fits hT w ha ha2 hu2 hd2 hu hsz (hlen w) (by omega) (hfn w rfl) (by simp [storeCells])) hs⟩
        · cases h1
      | succ n =>
        dsimp only at h1
        split at h1
        · -- onto nil
          simp only [VRel] at hs; subst hs
          cases hg : growOk T el (n + 1) with
          | false => rw [hg] at h1; cases h1
          | true =>
            rw [hg] at h1
            simp only [cond_true] at h1
            obtain ⟨cap, tail, hc1, hc2, hrun⟩ := append_grows hT w (sLen := 0) (sCap := 0) (base := none) (need := n + 1) (old := []) (new := Vs) (ty := ty) ha ha2 hu2 hd2 hu hsz (by omega) (hlen w) (by omega) hg (fun w' _ => rfl) (fun w' hw' => hfn w' hw') (by simp) hnl
            simp only [List.nil_append] at hrun hc2
            exact newGrown hT hR hsz hnew hc1 hc2 h1 hrun
        · -- the capacity is known
          rename_i id off len c
          obtain ⟨p, c', hp, ⟨rfl, hlc⟩, rfl⟩ : ∃ p n, e.pl id = some p ∧ (ACap.k c).rel p len n ∧ S = .slice (some ⟨p.blk, p.base + off, none⟩) len n := by simpa only [VRel] using hs
          cases hle : Nat.ble (len + (n + 1)) c' with
          | true =>
            rw [hle] at h1
            simp only [cond_true] at h1
            obtain ⟨m', w', h2, h3, h4, h5, h6⟩ := storeK_ok (P := P) hR hp hnew h1
            rw [natK_eq] at h2
            have hfit := ble_nat.1 hle
            refine ⟨_, m', h2, .slice (some ⟨p.blk, p.base + off, none⟩) (len + (n + 1)) c', w', e, append_fits hT w ha ha2 hu2 hd2 hu hsz (hlen w) hfit (hfn w rfl) ?_, by simp only [VRel]; exact ⟨p, _, hp, ⟨rfl, hfit⟩, rfl⟩, h4, Ext.refl m e, by omega, h5⟩
            rw [add_none, show p.base + off + len * (sz + 1) = p.base + (off + len * (sz + 1)) from by omega]
            exact h3
          | false =>
            rw [hle] at h1
            simp only [cond_false] at h1
            have hno := ble_nat_false.1 hle
            cases hg : growOk T el (len + (n + 1)) with
            | false => rw [hg] at h1; cases h1
            | true =>
              rw [hg] at h1
              simp only [cond_true] at h1
              split at h1
              · rename_i old hold
                rw [appK_eq] at h1
                obtain ⟨vs, hv, hvl, el', g, gb, fz, st', ex, kk, cc, cr, fr, hb, hle', hc', hk, hgc⟩ := cells_ok hR hp hold
                obtain ⟨cap, tail, hc1, hc2, hrun⟩ := append_grows hT w (sLen := len) (sCap := c') (base := some ⟨p.blk, p.base + off, none⟩) (need := len + (n + 1)) (old := vs) (new := Vs) (ty := ty) ha ha2 hu2 hd2 hu hsz rfl (hlen w) (by omega) hg
                  (fun w' hw' => run_cells hvl fun i hi => by rw [cell?_of (by rw [hw']; exact hc'), show p.base + off + i = p.base + (off + i) from by omega]; exact hgc i hi) (fun w' hw' => hfn w' hw') hvl hnl
                exact newGrown hT hR hsz (hv.append hnew) hc1 hc2 h1 hrun
              · cases h1
        · -- the capacity is not known
          rename_i id off len eo
          obtain ⟨p, c', hp, ⟨rfl, hlc⟩, rfl⟩ : ∃ p n, e.pl id = some p ∧ (ACap.u eo).rel p len n ∧ S = .slice (some ⟨p.blk, p.base + off, none⟩) len n := by simpa only [VRel] using hs
          split at h1
          · rename_i e0 g gb fz st' ex cnt cs hb
            rw [AMem.get_blks] at hb
            split at h1
            · rename_i old hold
              cases hcnd : (Nat.beq e0 el && Nat.ble fz cnt && Nat.beq (off + len * (sz + 1)) cnt && Nat.beq off (eo * (sz + 1)) && allSingle new && growOk T el (len + (n + 1))) with
              | false => rw [hcnd] at h1; cases h1
              | true =>
                rw [hcnd] at h1
                simp only [cond_true] at h1
                simp only [Bool.and_eq_true] at hcnd
                obtain ⟨⟨⟨⟨⟨q1, q2⟩, q3⟩, q4⟩, hsing⟩, hg⟩ := hcnd
                obtain rfl := beq_nat.1 q1
                have q2 := ble_nat.1 q2
                have q3 := beq_nat.1 q3
                have q4 := beq_nat.1 q4
                exact append_joins hT hR ha ha2 hu2 hd2 hu hsz hnew hnl hlen hfn hp hlc hb hold q2 q3 q4 hsing hg h1
            · cases h1
          · cases h1
        · cases h1
    · cases h
  · cases h
end
end Go.Proofs.YtplgnjpeikamhaaGreatDoor.Xec

namespace Go.Proofs.YtplgnjpeikamhaaGreatDoor.Xec
variable {α β : Type}

/-- a tree and the cells that it tells -/
def CRel (e : Env) (t : Tr AVal) (cells : Array Value) : Prop := ∀ i, i < cells.size → ∃ a v, t.get i = some a ∧ cells[i]? = some v ∧ VRel e a v

theorem fillCells {e : Env} : ∀ (l : List AVal) (vs : List Value) (off : Nat) (t t' : Tr AVal) (cells : Array Value), VRels e l vs → CRel e t cells → off + vs.length ≤ cells.size →
    (∀ j, t'.get j = if off ≤ j ∧ j < off + l.length then l[j - off]? else t.get j) →
    CRel e t' (vs.toArray.zipIdx.foldl (fun cs (c, j) => cs.setIfInBounds (off + j) c) cells) ∧ (vs.toArray.zipIdx.foldl (fun cs (c, j) => cs.setIfInBounds (off + j) c) cells).size = cells.size := by
  intro l vs off t t' cells hv hc ho ht
  have key : ∀ (vs : List Value) (k : Nat) (cells : Array Value), off + k + vs.length ≤ cells.size →
      ((vs.zipIdx k).foldl (fun cs (x : Value × Nat) => cs.setIfInBounds (off + x.2) x.1) cells).size = cells.size ∧ ∀ i, ((vs.zipIdx k).foldl (fun cs (x : Value × Nat) => cs.setIfInBounds (off + x.2) x.1) cells)[i]? = if off + k ≤ i ∧ i < off + k + vs.length then vs[i - (off + k)]? else cells[i]? := by
    intro vs
    induction vs with
    | nil => intro k cells _; exact ⟨rfl, fun i => by rw [if_neg (by simp only [List.length_nil]; omega)]; rfl⟩
    | cons v r ih =>
      intro k cells h
      simp only [List.length_cons] at h
      have := ih (k + 1) (cells.setIfInBounds (off + k) v) (by simp; omega)
      rw [List.zipIdx_cons, List.foldl_cons]
      obtain ⟨h1, h2⟩ := this
      refine ⟨by rw [h1]; simp, fun i => ?_⟩
      rw [h2]
      simp only [List.length_cons]
      by_cases e1 : i = off + k
      · subst e1
        rw [if_neg (by omega), if_pos (by omega), Nat.sub_self, List.getElem?_cons_zero, Array.getElem?_setIfInBounds_self_of_lt (by omega)]
      · by_cases e2 : off + k ≤ i ∧ i < off + k + (r.length + 1)
        · rw [if_pos e2, if_pos (by omega)]
          have : i - (off + k) = (i - (off + (k + 1))) + 1 := by omega
          rw [this]; simp
        · rw [if_neg e2, if_neg (by omega), Array.getElem?_setIfInBounds_ne (by omega)]
  have heq : vs.toArray.zipIdx.foldl (fun cs (c, j) => cs.setIfInBounds (off + j) c) cells = (vs.zipIdx 0).foldl (fun cs (x : Value × Nat) => cs.setIfInBounds (off + x.2) x.1) cells := by
    rw [← Array.foldl_toList, Array.toList_zipIdx]
  rw [heq]
  obtain ⟨h1, h2⟩ := key vs 0 cells (by omega)
  refine ⟨fun i hi => ?_, h1⟩
  have hl := hv.length
  rw [h1] at hi
  by_cases e1 : off ≤ i ∧ i < off + l.length
  · have h3 : l[i - off]? = some l[i - off] := List.getElem?_eq_getElem (by omega)
    obtain ⟨v, hv1, hr⟩ := hv.get h3
    exact ⟨_, v, by rw [ht, if_pos e1]; exact h3, by rw [h2, if_pos (by omega)]; simpa using hv1, hr⟩
  · obtain ⟨a, v, ha, hv1, hr⟩ := hc i hi
    exact ⟨a, v, by rw [ht, if_neg e1]; exact ha, by rw [h2, if_neg (by omega)]; exact hv1, hr⟩

theorem fillParts_ok {e : Env} {place : Nat → Option (Nat × Nat)} {ev : Operand → Option AVal} {ρ : Operand → Value} (hev : ∀ x a, ev x = some a → VRel e a (ρ x)) :
    ∀ (ps : List (Nat × Operand)) (t : Tr AVal) (cells : Array Value) (k : Tr AVal → Option β) (r : β), fillPartsK place ev ps t k = some r → CRel e t cells → fitsIn place cells.size ps = true →
      ∃ t' cells', k t' = some r ∧ Instr.fill place cells (ps.map fun (i, x) => (i, ρ x)) = some cells' ∧ CRel e t' cells' ∧ cells'.size = cells.size := by
  intro ps
  induction ps with
  | nil => intro t cells k r h hc _; exact ⟨t, cells, h, rfl, hc, rfl⟩
  | cons q ps ih =>
    obtain ⟨i, x⟩ := q
    intro t cells k r h hc hf
    unfold fillPartsK at h
    unfold fitsIn at hf
    cases hp : place i with
    | none => rw [hp] at h; simp at h
    | some os =>
      obtain ⟨off, sz⟩ := os
      rw [hp] at h hf
      simp only [Bool.and_eq_true] at hf
      cases hx : ev x with
      | none => rw [hx] at h; simp at h
      | some v =>
        rw [hx] at h
        dsimp only at h
        cases hb : (Nat.beq v.cells.length sz && v.live) with
        | false => rw [hb] at h; cases h
        | true =>
          rw [hb] at h
          simp only [Bool.and_eq_true] at hb
          have hlen := beq_nat.1 hb.1
          have hrel := (hev _ _ hx).cells' hb.2
          obtain ⟨t1, h1, ht1⟩ := fillK_some _ _ _ _ _ h
          have hl := hrel.length
          have hle := ble_nat.1 hf.1
          obtain ⟨c1, c2⟩ := fillCells v.cells (ρ x).cells.toList off t t1 cells hrel hc (by omega) ht1
          obtain ⟨t', cells', k1, k2, k3, k4⟩ := ih t1 _ k r h1 c1 (by rw [c2]; exact hf.2)
          refine ⟨t', cells', k1, ?_, k3, k4.trans c2⟩
          simp only [List.map_cons]
          unfold Instr.fill
          simp only [hp]
          have hs1 : (ρ x).cells.size = sz := by simpa [hlen] using hl
          rw [if_neg (by simp [hs1]; omega)]
          simpa using k2

theorem trListK_some (t : Tr AVal) : ∀ (n i : Nat) (k : List AVal → Option β) (r : β), trListK t n i k = some r → ∃ l, k l = some r ∧ l.length = n ∧ ∀ j, j < n → t.get (i + j) = l[j]? := by
  intro n
  induction n with
  | zero => intro i k r h; exact ⟨[], h, rfl, fun j hj => by omega⟩
  | succ n ih =>
    intro i k r h
    unfold trListK at h
    split at h
    · rename_i v hv
      obtain ⟨l, h1, h2, h3⟩ := ih _ _ _ h
      refine ⟨v :: l, h1, by simp [h2], fun j hj => ?_⟩
      cases j with
      | zero => simpa using hv
      | succ j => have := h3 j (by omega); rw [show i + (j + 1) = i + 1 + j from by omega, this]; simp
    · cases h

theorem CRel.list {e : Env} {t : Tr AVal} {cells : Array Value} (h : CRel e t cells) {l : List AVal} (hl : l.length = cells.size) (hg : ∀ j, j < cells.size → t.get (0 + j) = l[j]?) : VRels e l cells.toList :=
  VRels.of_get (by simpa using hl) fun i a v ha hv => by
    have hi : i < cells.size := by rw [← hl]; exact (List.getElem?_eq_some_iff.1 ha).1
    obtain ⟨a', v', h1, h2, h3⟩ := h i hi
    have h4 := hg i hi
    rw [Nat.zero_add, h1, ha] at h4
    cases h4
    rw [Array.getElem?_toList, h2] at hv
    cases hv
    exact h3

theorem CRel.of_fill {e : Env} {l : List AVal} {vs : List Value} (hv : VRels e l vs) {t : Tr AVal} (ht : ∀ j, t.get j = if 0 ≤ j ∧ j < 0 + l.length then l[j - 0]? else (Tr.lf : Tr AVal).get j) : CRel e t vs.toArray := by
  intro i hi
  simp at hi
  have hl := hv.length
  have h3 : l[i]? = some l[i] := List.getElem?_eq_getElem (by omega)
  obtain ⟨v, hv1, hr⟩ := hv.get h3
  exact ⟨_, v, by rw [ht, if_pos (by omega)]; simpa using h3, by simpa using hv1, hr⟩

section
variable {P : Program} {T : Tab} (hT : TabOk P T) {F : Nat → Prop} {e : Env} {m : AMem} {w : World} (hR : Rel T F e m w)
include hT

theorem run_places (fs : Array Field) (h : fs.toList.all (fun f => (T.size f.type).isSome) = true) (w : World) :
    ∃ places : Array (Nat × Nat), (fs.mapM fun f => do pure (f.offset, ← sizeOf f.type) : Sem (Array (Nat × Nat))).run P w = .ok places w ∧ ∀ i, places[i]? = structPlace T fs.toList i := by
  have key : ∀ l : List Field, l.all (fun f => (T.size f.type).isSome) = true → ∃ ps : List (Nat × Nat), (l.mapM fun f => do pure (f.offset, ← sizeOf f.type) : Sem (List (Nat × Nat))).run P w = .ok ps w ∧ ∀ i : Nat, ps[i]? = structPlace T l i := by
    intro l
    induction l with
    | nil => intro _; exact ⟨[], rfl, fun i => by simp [structPlace]⟩
    | cons f l ih =>
      intro hl
      simp only [List.all_cons, Bool.and_eq_true] at hl
      obtain ⟨ps, h1, h2⟩ := ih hl.2
      obtain ⟨s, hs⟩ := Option.isSome_iff_exists.1 hl.1
      refine ⟨(f.offset, s) :: ps, by rw [List.mapM_cons]; simp only [Sem.run_bind, Sem.run_pure, run_size hT hs, Result.andThen_ok, h1], fun i => ?_⟩
      cases i with
      | zero => simp [structPlace, hs]
      | succ i => simpa [structPlace] using h2 i
  obtain ⟨ps, h1, h2⟩ := key fs.toList h
  refine ⟨ps.toArray, ?_, fun i => by simpa using h2 i⟩
  rw [Array.mapM_eq_mapM_toList, Sem.run_map, h1]
  rfl

theorem abuild_ok {t : TypeId} {ps : Array (Nat × Operand)} {ev : Operand → Option AVal} {ρ : Operand → Value} (hev : ∀ x a, ev x = some a → VRel e a (ρ x)) {k : AVal → Option β} {r : β} (h : abuild T ev t ps.toList k = some r) (w : World) :
    ∃ a, k a = some r ∧ ∃ v, VRel e a v ∧ (Instr.build t (ps.map fun (i, x) => (i, ρ x))).run P w = .ok v w := by
  unfold abuild at h
  split at h
  · rename_i z fs hz hu
    obtain ⟨Z, hZ, hzr, hl⟩ := run_zero hT hz w
    have hzc := (hzr e).cells' hl
    obtain ⟨t0, h1, ht0⟩ := fillK_some _ _ _ _ _ h
    cases hc : (fitsIn (structPlace T fs.toList) (0 + z.cells.length) ps.toList && fs.toList.all (fun f => (T.size f.type).isSome)) with
    | false => rw [hc] at h1; cases h1
    | true =>
      rw [hc] at h1
      simp only [cond_true] at h1
      simp only [Bool.and_eq_true] at hc
      obtain ⟨places, hp1, hp2⟩ := run_places hT fs hc.2 w
      have hsz : Z.cells.size = z.cells.length := by simpa using hzc.length
      obtain ⟨t', cells', k1, k2, k3, k4⟩ := fillParts_ok hev _ t0 Z.cells _ _ h1 (by simpa using CRel.of_fill hzc ht0) (by rw [hsz, ← Nat.zero_add z.cells.length]; exact hc.1)
      obtain ⟨l, l1, l2, l3⟩ := trListK_some _ _ _ _ _ k1
      refine ⟨_, l1, .agg cells', ?_, ?_⟩
      · simp only [VRel]
        exact ⟨cells'.toList, k3.list (by omega) (fun j hj => l3 j (by omega)), by simp⟩
      · unfold Instr.build
        have hpl : (fun x => places[x]?) = structPlace T fs.toList := funext hp2
        simp only [Sem.run_bind, hZ, Result.andThen_ok, run_und hT hu, hp1]
        rw [hpl]
        simp [k2]
  · rename_i z len el hz hu
    obtain ⟨Z, hZ, hzr, hl⟩ := run_zero hT hz w
    have hzc := (hzr e).cells' hl
    split at h
    · rename_i s hs
      obtain ⟨t0, h1, ht0⟩ := fillK_some _ _ _ _ _ h
      cases hc : fitsIn (fun i => some (i * s, s)) (0 + z.cells.length) ps.toList with
      | false => rw [hc] at h1; cases h1
      | true =>
        rw [hc] at h1
        simp only [cond_true] at h1
        have hsz : Z.cells.size = z.cells.length := by simpa using hzc.length
        obtain ⟨t', cells', k1, k2, k3, k4⟩ := fillParts_ok hev _ t0 Z.cells _ _ h1 (by simpa using CRel.of_fill hzc ht0) (by rw [hsz, ← Nat.zero_add z.cells.length]; exact hc)
        obtain ⟨l, l1, l2, l3⟩ := trListK_some _ _ _ _ _ k1
        refine ⟨_, l1, .agg cells', ?_, ?_⟩
        · simp only [VRel]
          exact ⟨cells'.toList, k3.list (by omega) (fun j hj => l3 j (by omega)), by simp⟩
        · unfold Instr.build
          simp only [Sem.run_bind, hZ, Result.andThen_ok, run_und hT hu, run_size hT hs]
          simp [k2]
    · cases h
  · cases h
end
end Go.Proofs.YtplgnjpeikamhaaGreatDoor.Xec

namespace Go.Proofs.YtplgnjpeikamhaaGreatDoor.Xec
variable {α β : Type}

theorem repK_some (z : List AVal) : ∀ (n : Nat) (t : Tr AVal) (i : Nat) (k : Tr AVal → Nat → Option β) (r : β), repK z n t i k = some r →
    ∃ t', k t' (i + n * z.length) = some r ∧ ∀ j, t'.get j = if i ≤ j ∧ j < i + n * z.length then z[(j - i) % z.length]? else t.get j := by
  intro n
  induction n with
  | zero => intro t i k r h; exact ⟨t, by simpa [repK] using h, fun j => by rw [if_neg (by omega)]⟩
  | succ n ih =>
    intro t i k r h
    unfold repK at h
    obtain ⟨t1, h1, ht1⟩ := fillK_some _ _ _ _ _ h
    obtain ⟨t2, h2, ht2⟩ := ih _ _ _ _ h1
    refine ⟨t2, by rw [Nat.add_one_mul, Nat.add_comm (n * z.length), ← Nat.add_assoc]; exact h2, fun j => ?_⟩
    rw [ht2, ht1, Nat.add_one_mul]
    by_cases e1 : i + z.length ≤ j ∧ j < i + z.length + n * z.length
    · rw [if_pos e1, if_pos (by omega)]
      have : j - i = (j - (i + z.length)) + z.length := by omega
      rw [this, Nat.add_mod_right]
    · rw [if_neg e1]
      by_cases e2 : i ≤ j ∧ j < i + z.length
      · rw [if_pos e2, if_pos (by omega), Nat.mod_eq_of_lt (by omega)]
      · rw [if_neg e2, if_neg (by omega)]

theorem CRel.of_rep {e : Env} {z : List AVal} {Z : Array Value} (hz : VRels e z Z.toList) (h0 : z.length ≠ 0) {t : Tr AVal} {n : Nat} (ht : ∀ j, t.get j = if 0 ≤ j ∧ j < 0 + n * z.length then z[(j - 0) % z.length]? else (Tr.lf : Tr AVal).get j) :
    CRel e t ((Array.range (n * z.length)).map (Z[· % Z.size]!)) := by
  intro i hi
  simp at hi
  have hl := hz.length
  simp at hl
  have hm : i % z.length < z.length := Nat.mod_lt _ (by omega)
  have h3 : z[i % z.length]? = some z[i % z.length] := List.getElem?_eq_getElem hm
  obtain ⟨v, hv1, hr⟩ := hz.get h3
  refine ⟨_, v, by rw [ht, if_pos (by omega)]; simpa using h3, ?_, hr⟩
  rw [Array.getElem?_toList] at hv1
  simp [hi, hl, getElem!_def, hv1]

section
variable {P : Program} {T : Tab} (hT : TabOk P T) {F : Nat → Prop} {e : Env} {m : AMem} {w : World} (hR : Rel T F e m w)
include hT hR

omit hT in
theorem newRowC {elem : TypeId} {cells : Array Value} {t : Tr AVal} (hc : CRel e t cells) {k : Nat → AMem → Option β} {r : β} (h : newBlkK m (.row elem none 0 0 false true cells.size t) k = some r) :
    ∃ m', k m.next m' = some r ∧ m'.next = m.next + 1 ∧ Rel T F (e.add m.next ⟨w.heap.size, 0, 0⟩) m' { w with heap := w.heap.push (.cells cells elem) } ∧
      Ext m e (e.add m.next ⟨w.heap.size, 0, 0⟩) ∧ Keep F w { w with heap := w.heap.push (.cells cells elem) } := by
  obtain ⟨m', h2, hn, hg, hb⟩ := newBlkK_some h
  have hx := Ext.add m e ⟨w.heap.size, 0, 0⟩
  have hle := hR.le hx
  obtain ⟨a1, a2, a3⟩ := hR.alloc (.row elem none 0 0 false true cells.size t) (.cells cells elem) 0 rfl hn hg hb (by
    refine ⟨cells, (0, 0), by simp, fun i hi => ?_, .inl rfl, by simp, fun s _ => by simp, fun _ => ⟨rfl, rfl⟩⟩
    obtain ⟨a, v, h1, h2, h3⟩ := hc i hi
    exact ⟨a, v, h1, by simpa using h2, h3.mono hle⟩)
  exact ⟨m', h2, hn, a1, a2, a3⟩

omit hT in
theorem DidV.row {elem : TypeId} {cells : Array Value} {t : Tr AVal} (hc : CRel e t cells) {k : Nat → AMem → Option β} {r : β} (h : newBlkK m (.row elem none 0 0 false true cells.size t) k = some r) {s : Sem Value} {len cap : Nat} (hlc : len ≤ cap)
    (hs : s.run P w = .ok (.slice (some ⟨w.heap.size, 0, none⟩) len cap) { w with heap := w.heap.push (.cells cells elem) }) : ∃ m', k m.next m' = some r ∧ DidV P T F e m w s (.slice m.next 0 len (.k cap)) m' := by
  obtain ⟨m', h1, h2, h3, h4, h5⟩ := newRowC hR hc h
  refine ⟨m', h1, _, _, _, hs, ?_, h3, h4, by omega, h5⟩
  simp only [VRel]
  exact ⟨⟨w.heap.size, 0, 0⟩, cap, by simp [Env.add], ⟨rfl, hlc⟩, rfl⟩

theorem abuildSlice_ok {t : TypeId} {len : Nat} {ps : Array (Nat × Operand)} {ev : Operand → Option AVal} {ρ : Operand → Value} (hev : ∀ x a, ev x = some a → VRel e a (ρ x)) {k : AVal → AMem → Option β} {r : β} (h : abuildSlice T ev t len ps.toList m k = some r) :
    ∃ a m', k a m' = some r ∧ DidV P T F e m w (Instr.buildSlice t len (ps.map fun (i, x) => (i, ρ x))) a m' := by
  unfold abuildSlice at h
  split at h
  · rename_i el hu
    split at h
    · rename_i s z hs hz
      obtain ⟨Z, hZ, hzr, hl⟩ := run_zero hT hz w
      have hzc := (hzr e).cells' hl
      cases hc : (Nat.ble (len * s) 65536 && Nat.beq z.cells.length s && fitsIn (fun i => some (i * s, s)) (len * s) ps.toList && !Nat.beq s 0) with
      | false => rw [hc] at h; cases h
      | true =>
        rw [hc] at h
        simp only [cond_true] at h
        simp only [Bool.and_eq_true, Bool.not_eq_true'] at hc
        obtain ⟨⟨⟨hc1, hc2⟩, hc3⟩, hc4⟩ := hc
        have hc1 := ble_nat.1 hc1
        have hc2 := beq_nat.1 hc2
        have hc4 := beq_nat_false.1 hc4
        obtain ⟨t0, h1, ht0⟩ := repK_some _ _ _ _ _ _ h
        have hcr : CRel e t0 ((Array.range (len * z.cells.length)).map (Z.cells[· % Z.cells.size]!)) := CRel.of_rep hzc (by omega) ht0
        obtain ⟨t', cells', k1, k2, k3, k4⟩ := fillParts_ok hev _ t0 _ _ _ h1 hcr (by simpa [hc2] using hc3)
        rw [natK_eq] at k1
        have hsz : cells'.size = len * s := by rw [k4]; simp [hc2]
        rw [← hsz] at k1
        obtain ⟨m', h2, h3⟩ := DidV.row (P := P) (len := len) (cap := len) (s := Instr.buildSlice t len (ps.map fun (i, x) => (i, ρ x))) hR k3 k1 (Nat.le_refl _) (by
          have hls : ¬ len * s > 16777216 := by omega
          unfold Instr.buildSlice
          simp only [Sem.run_bind, run_und hT hu, Result.andThen_ok, run_size hT hs]
          cases len with
          | zero =>
            have hr0 : ∀ f : Nat → Value, (Array.range 0).map f = #[] := fun f => by simp
            rw [Nat.zero_mul, hr0] at k2
            simp only [Nat.zero_mul, hr0]
            simp [k2, newRow]
          | succ n =>
            have h0 : (n + 1) * s ≠ 0 := Nat.mul_ne_zero (by omega) hc4
            rw [hc2] at k2
            simp [hls, h0, hZ, k2, newRow])
        exact ⟨_, m', h2, h3⟩
    · cases h
  · cases h

theorem amakeSlice_ok {t : TypeId} {l c : AVal} {L C : Value} (hl : VRel e l L) (hc : VRel e c C) {k : AVal → AMem → Option β} {r : β} (h : amakeSlice T t l c m k = some r) :
    ∃ a m', k a m' = some r ∧ DidV P T F e m w (Instr.makeSlice t L C) a m' := by
  unfold amakeSlice at h
  split at h
  · rename_i el kl len kc cap hu
    simp only [VRel] at hl hc
    subst hl; subst hc
    split at h
    · rename_i i z hi hz
      obtain ⟨Z, hZ, hzr, hl⟩ := run_zero hT hz w
      have hzc := (hzr e).cells' hl
      cases hc : (Nat.ble len cap && Nat.ble cap 65536 && Nat.ble i.bytes 4096 && Nat.beq z.cells.length i.size && !Nat.beq i.size 0) with
      | false => rw [hc] at h; cases h
      | true =>
        rw [hc] at h
        simp only [cond_true] at h
        simp only [Bool.and_eq_true, Bool.not_eq_true'] at hc
        obtain ⟨⟨⟨⟨hc1, hc2⟩, hc3⟩, hc4⟩, hc5⟩ := hc
        have hc1 := ble_nat.1 hc1
        have hc2 := ble_nat.1 hc2
        have hc3 := ble_nat.1 hc3
        have hc4 := beq_nat.1 hc4
        have hc5 := beq_nat_false.1 hc5
        obtain ⟨t0, h1, ht0⟩ := repK_some _ _ _ _ _ _ h
        have hcr : CRel e t0 ((Array.range (cap * z.cells.length)).map (Z.cells[· % Z.cells.size]!)) := CRel.of_rep hzc (by omega) ht0
        rw [show 0 + cap * z.cells.length = ((Array.range (cap * z.cells.length)).map (Z.cells[· % Z.cells.size]!)).size from by simp] at h1
        obtain ⟨m', h2, h3⟩ := DidV.row (P := P) (len := len) (cap := cap) (s := Instr.makeSlice t (.int kl (.ofNat len)) (.int kc (.ofNat cap))) hR hcr h1 hc1 (by
          have hb : i.bytes * cap ≤ 4096 * 65536 := Nat.mul_le_mul hc3 hc2
          have hb2 : i.bytes * len ≤ 4096 * 65536 := Nat.mul_le_mul hc3 (by omega)
          have wrap_small : ∀ n : Nat, n ≤ 65536 → IntKind.i64.wrap (.ofNat n) = .ofNat n := fun n hn => by simp [IntKind.wrap, IntKind.bits, IntKind.signed]; omega
          have asI : ∀ (kd : IntKind) (n : Int) (w : World), (asInt (.int kd n)).run P w = .ok n w := fun _ _ _ => rfl
          have w1 : IntKind.i64.wrap (.ofNat len) = .ofNat len := wrap_small _ (by omega)
          have w2 : IntKind.i64.wrap (.ofNat cap) = .ofNat cap := wrap_small _ (by omega)
          unfold Instr.makeSlice
          simp only [Sem.run_bind, run_und hT hu, Result.andThen_ok, run_info hT hi, asI, w1, w2]
          have hsz : T.size el = some i.size := by unfold Tab.size; rw [hi]
          have hmul : ((i.bytes : Int) * Int.ofNat cap) ≤ 268435456 := by
            rw [show ((i.bytes : Int) * Int.ofNat cap) = ((i.bytes * cap : Nat) : Int) from (Int.natCast_mul _ _).symm]
            omega
          have hcond : (decide (Int.ofNat cap < 0) || decide ((i.bytes : Int) * Int.ofNat cap > 2 ^ 48) || decide (Int.ofNat len < 0) || decide (Int.ofNat len > Int.ofNat cap)) = false := by
            simp only [Bool.or_eq_false_iff, decide_eq_false_iff_not]
            refine ⟨⟨⟨fun h => ?_, fun h => ?_⟩, fun h => ?_⟩, fun h => ?_⟩
            · exact absurd h (Int.not_lt.2 (Int.natCast_nonneg cap))
            · have : (2 : Int) ^ 48 = 281474976710656 := rfl
              omega
            · exact absurd h (Int.not_lt.2 (Int.natCast_nonneg len))
            · have := Int.ofNat_lt.1 h
              omega
          rw [hcond, if_neg (by decide)]
          simp only [Sem.run_bind, run_askRoom, Result.andThen_ok, run_size hT hsz, Int.ofNat_eq_natCast, Int.toNat_natCast]
          cases cap with
          | zero =>
            have hr0 : ∀ f : Nat → Value, (Array.range 0).map f = #[] := fun f => by simp
            simp only [Nat.zero_mul, hr0]
            simp [newRow]
          | succ n =>
            have h0 : (n + 1) * i.size ≠ 0 := Nat.mul_ne_zero (by omega) hc5
            simp [h0, hZ, newRow, hc4])
        exact ⟨_, m', h2, h3⟩
    · cases h
  · cases h

theorem acopy_ok {ats : Array TypeId} {ty dt : TypeId} {d s : AVal} {D S : Value} (ha : ats[0]? = some dt) (hd : VRel e d D) (hs : VRel e s S) {k : AVal → AMem → Option β} {r : β} (h : acopy T dt d s m k = some r) :
    ∃ a m', k a m' = some r ∧ DidV P T F e m w (Builtin.copy_ ats ty #[D, S]) a m' := by
  unfold acopy at h
  split at h
  · rename_i el hu
    split at h
    · rename_i sz hsz
      obtain ⟨n, cs, Vs, h1, hv, hl, hlen, hcells⟩ := srcK_ok hT hR hsz h hs
      have run : ∀ base dLen cc, D = .slice base dLen cc → (Builtin.copy_ ats ty #[D, S]).run P w =
          ((match base with
            | some a => storeCells a (Vs.take (min n dLen * sz))
            | none => pure ()).run P w).andThen fun _ w' => .ok (.int .i64 (min n dLen : Nat)) w' := by
        intro base dLen cc hD
        subst hD
        have hc := hcells (Nat.min n dLen) w (Nat.min_le_left _ _) rfl
        unfold Builtin.copy_
        cases base with
        | none => simp [ha, run_und hT hu, run_size hT hsz, hlen, hc, goInt]
        | some a => simp [ha, run_und hT hu, run_size hT hsz, hlen, hc, goInt]
      split at h1
      · simp only [VRel] at hd
        refine ⟨_, m, h1, DidV.pure hR (v := .int .i64 0) ?_ (by simp only [VRel])⟩
        rw [run _ _ _ hd]
        simp
      · simp only [VRel] at hd
        obtain ⟨p, hp, hd⟩ := hd
        refine ⟨_, m, h1, DidV.pure hR (v := .int .i64 0) ?_ (by simp only [VRel])⟩
        rw [run _ _ _ hd]
        simp [storeCells]
      · rename_i id off len c
        simp only [VRel] at hd
        obtain ⟨p, cc, hp, hcr, hd⟩ := hd
        simp only [natK_eq, takeK_eq] at h1
        obtain ⟨m', w', g1, g2, g3, g4, g5⟩ := storeK_ok (P := P) hR hp (hv.take (min n len * sz)) h1
        refine ⟨_, m', g1, _, w', e, by rw [run _ _ _ hd, g2]; rfl, by simp only [VRel]; rfl, g3, Ext.refl m e, by omega, g4⟩
      · cases h1
    · cases h
  · cases h
end
end Go.Proofs.YtplgnjpeikamhaaGreatDoor.Xec

namespace Go.Proofs.YtplgnjpeikamhaaGreatDoor.Xec
variable {α β : Type}

/-- an operation's one step -/
def DidN (P : Program) (T : Tab) (F : Nat → Prop) (e : Env) (m : AMem) (w : World) (s : Sem Next) (a : AVal) (m' : AMem) : Prop :=
  ∃ n w' e', s.run P w = .ok n w' ∧ (∃ v, VRel e' a v ∧ (n = Next.value v ∨ n = Next.skip ∧ v = undef)) ∧ Rel T F e' m' w' ∧ Ext m e e' ∧ m.next ≤ m'.next ∧ Keep F w w'

theorem DidV.next {P : Program} {T : Tab} {F : Nat → Prop} {e : Env} {m m' : AMem} {w : World} {s : Sem Value} {a : AVal} (h : DidV P T F e m w s a m') : DidN P T F e m w (s >>= fun v => Pure.pure (Next.value v)) a m' := by
  obtain ⟨v, w', e', h1, h2, h3⟩ := h
  exact ⟨Next.value v, w', e', by simp [h1], ⟨v, h2, .inl rfl⟩, h3⟩

theorem DidU.next {P : Program} {T : Tab} {F : Nat → Prop} {e : Env} {m m' : AMem} {w : World} {s : Sem Unit} (h : DidU P T F e m w s m') : DidN P T F e m w (s >>= fun _ => Pure.pure Next.skip) aundef m' := by
  obtain ⟨w', h1, h2, h3, h4⟩ := h
  exact ⟨Next.skip, w', e, by simp [h1], ⟨undef, undef_rel e, .inr ⟨rfl, rfl⟩⟩, h2, Ext.refl m e, by omega, h4⟩

theorem liesAt_row {P : Program} {e : TypeId} (hc : P.cellsOf e = 1) (count off n : Nat) (hn : off + n ≤ count) : liesAt P P.depth e count off e n = true := by
  have hd : P.depth = (2 * (P.types.size + Made.depth) + 1) + 1 := rfl
  rw [hd]
  simp only [liesAt, Bool.or_eq_true]
  left
  rw [hd]
  simp [rowAt, hc, hn, sameLayout, Nat.mod_one]

theorem heap_freeze {w : World} {b o n : Nat} {c : Array Value} {el : TypeId} {fr : Nat × Nat} (h : w.heap[b]? = some (.cells c el fr)) (hn : n ≠ 0) :
    (w.freeze ⟨b, o, none⟩ n).heap[b]? = some (.cells c el (if fr.1 == fr.2 then (o, o + n) else (min fr.1 o, max fr.2 (o + n)))) ∧ (∀ x, x ≠ b → (w.freeze ⟨b, o, none⟩ n).heap[x]? = w.heap[x]?) ∧
    (w.freeze ⟨b, o, none⟩ n).heap.size = w.heap.size ∧ (w.freeze ⟨b, o, none⟩ n).os = w.os ∧ (w.freeze ⟨b, o, none⟩ n).output = w.output ∧ (w.freeze ⟨b, o, none⟩ n).tape = w.tape := by
  unfold World.freeze
  rw [if_neg hn]
  refine ⟨?_, fun x hx => ?_, by simp, rfl, rfl, rfl⟩
  · simp only [Array.getElem?_modify, if_true, h, Option.map_some]
  · simp only [Array.getElem?_modify, if_neg (Ne.symm hx)]

section
variable {P : Program} {T : Tab} (hT : TabOk P T) {F : Nat → Prop} {e : Env} {m : AMem} {w : World} (hR : Rel T F e m w)
include hT hR

theorem alen_ok {ats : Array TypeId} {ty t : TypeId} {x : AVal} {X : Value} (ha : ats[0]? = some t) (hx : VRel e x X) {k : AVal → Option β} {r : β} (h : alen T t x m k = some r) :
    ∃ a, k a = some r ∧ DidV P T F e m w (Builtin.len_ ats ty #[X]) a m := by
  unfold alen at h
  split at h
  · rename_i l hu
    simp only [lenK_eq, Nat.zero_add] at h
    simp only [VRel] at hx
    obtain ⟨rfl, _⟩ := hx
    refine ⟨_, h, DidV.pure hR (v := .int .i64 l.length) ?_ (by simp only [VRel]; rfl)⟩
    simp [Builtin.len_, ha, run_und hT hu, goInt, toBytes_size]
  · rename_i n _ hu
    rw [natK_eq] at h
    refine ⟨_, h, DidV.pure hR (v := .int .i64 n) ?_ (by simp only [VRel]; rfl)⟩
    simp [Builtin.len_, ha, run_und hT hu, goInt]
  · rename_i el id off n c hu
    simp only [VRel] at hx
    obtain ⟨p, cc, hp, hc, rfl⟩ := hx
    refine ⟨_, h, DidV.pure hR (v := .int .i64 n) ?_ (by simp only [VRel]; rfl)⟩
    simp [Builtin.len_, ha, run_und hT hu, goInt]
  · rename_i el hu
    simp only [VRel] at hx
    subst hx
    refine ⟨_, h, DidV.pure hR (v := .int .i64 0) ?_ (by simp only [VRel]; rfl)⟩
    simp [Builtin.len_, ha, run_und hT hu, goInt]
  · rename_i el id hu
    simp only [VRel] at hx
    obtain ⟨p, hp, rfl⟩ := hx
    refine ⟨_, h, DidV.pure hR (v := .int .i64 0) ?_ (by simp only [VRel]; rfl)⟩
    simp [Builtin.len_, ha, run_und hT hu, goInt]
  · rename_i kt et hu
    simp only [VRel] at hx
    subst hx
    refine ⟨_, h, DidV.pure hR (v := .int .i64 0) ?_ (by simp only [VRel]; rfl)⟩
    simp [Builtin.len_, ha, run_und hT hu, goInt]
  · rename_i kt et id hu
    split at h
    · rename_i es c hb
      simp only [lenK_eq, Nat.zero_add] at h
      simp only [VRel] at hx
      obtain ⟨p, hp, rfl⟩ := hx
      rw [AMem.get_blks] at hb
      obtain ⟨xs, h1, h2⟩ := hR.real _ _ _ hb hp
      refine ⟨_, h, DidV.pure hR (v := .int .i64 es.length) ?_ (by simp only [VRel]; rfl)⟩
      have hl := h2.length
      simp only [Array.length_toList] at hl
      simp [Builtin.len_, ha, run_und hT hu, goInt, run_getObj h1, hl]
    · cases h
  · cases h

omit hT hR in
theorem run_bytes_at {l : List Nat} {a : Addr} (hb : ∀ b ∈ l, b < 256) (h : ∀ j, j < l.length → w.cell? (a.add j) = (l[j]?).map fun b => Value.int .u8 (.ofNat b)) :
    (loadBytes a .empty l.length).run P w = .ok (toBytes l) w := by
  have := Lib.run_loadBytes (P := P) w (l.map Nat.toUInt8) a .empty (fun j x hj => by
    have hj' : j < l.length := by
      have := (List.getElem?_eq_some_iff.1 hj).1
      simpa using this
    rw [h j hj']
    simp only [List.getElem?_map, List.getElem?_eq_getElem hj', Option.map_some, Option.some.injEq] at hj ⊢
    subst hj
    have := hb _ (List.getElem_mem hj')
    simp
    omega)
  simp only [List.length_map] at this
  rw [this]
  congr 1
  apply ByteArray.ext
  simp [toBytes]

theorem aunsafeString_ok {ats : Array TypeId} {ty t u el : TypeId} {g : Option Nat} {gb fz cnt n id off : Nat} {ex : Bool} {cs : Tr AVal} {l : List AVal} {kd : IntKind} {X : Value} (ha : ats[0]? = some t) (hu : T.und t = some (.pointer u)) (hu8 : isU8 T u = true) (hue : u = el) (hn : n + 1 ≤ 16777216)
    (hb : m.blks.get id = some (.row el g gb fz false ex cnt cs)) (hl : m.cells id off (n + 1) = some l) (hx : VRel e (.ptr id off) X) {k : List Nat → AMem → Option β} {r : β}
    (h : (unbytesK l fun s => strikeK m id g 0 fun m' => natK (max fz (off + (n + 1))) fun fz' => setBlkK m' id (.row el g gb fz' false ex cnt cs) fun m' => k s m') = some r) :
    ∃ s m', k s m' = some r ∧ DidV P T F e m w (Builtin.unsafeString_ ats ty #[X, .int kd (.ofNat (n + 1))]) (.str s) m' := by
  simp only [VRel] at hx
  obtain ⟨p, hp, rfl⟩ := hx
  obtain ⟨vs, hv, hlen, el', g', gb', fz', st', ex', kk, cc, c, fr, hb', hle, hc', hk, hg⟩ := cells_ok hR hp hl
  rw [hb] at hb'
  cases hb'
  obtain ⟨s, rfl, hs, h1⟩ := unbytesK_some _ _ _ h
  obtain rfl := rel_bytes hv
  obtain ⟨m1, h2, hn1, hg1, hid1, hget1, hsib1⟩ := strikeK_some hR hb _ _ _ h1
  rw [natK_eq] at h2
  obtain ⟨m2, h3, hn2, hg2, hget2⟩ := setBlkK_some h2
  simp only [List.length_map] at hlen
  subst hue
  obtain ⟨hud, hsz⟩ := isU8_ok hu8
  have hco := cellsOf_ok hT hsz
  obtain ⟨c2, fr2, hc2, hcell, hfr, hnc, hcap, hex⟩ := hR.real id _ p hb hp
  rw [hc'] at hc2
  cases hc2
  obtain ⟨f1, f2, f3, f4, f5, f6⟩ := heap_freeze (o := p.base + off) (n := n + 1) hc' (by omega)
  have hfr2 : fzOk false (if fr.1 == fr.2 then (p.base + off, p.base + off + (n + 1)) else (min fr.1 (p.base + off), max fr.2 (p.base + off + (n + 1)))) (p.base + max fz (off + (n + 1))) c.size := by
    unfold fzOk at hfr ⊢
    right
    by_cases e1 : fr.1 = fr.2
    · simp [e1]; omega
    · simp [e1] at hfr ⊢; omega
  obtain ⟨r1, r2⟩ := hR.upd (m' := m2) (w' := w.freeze ⟨p.blk, p.base + off, none⟩ (n + 1)) (b1 := .row u g gb (max fz (off + (n + 1))) false ex cnt cs) hb hp (hn2.trans hn1) (hg2.trans hg1) (by rw [hget2]; simp)
    (fun j hj => by rw [hget2, if_neg hj]; exact hget1 j hj) rfl rfl f2 f3 ⟨c, _, f1, hcell, hfr2, hnc, hcap, hex⟩
    (fun j q b hj hbj hq hqp => by
      rw [hget2, if_neg hj] at hbj
      obtain ⟨_, _, _, _, _, _, _, _, _, _, hlt⟩ := hsib1 j p q b hj hbj hp hq hqp
      omega) f4 f5 f6
  refine ⟨s, m2, h3, _, w.freeze ⟨p.blk, p.base + off, none⟩ (n + 1), e, ?_, by simp only [VRel]; exact ⟨rfl, hs⟩, r1, Ext.refl m e, by omega, r2⟩
  have hsh : w.shape? p.blk = some (u, c.size) := by unfold World.shape?; rw [hc']
  have hl2 := run_bytes_at (P := P) (w := w) (a := ⟨p.blk, p.base + off, none⟩) hs (fun j hj => by
    rw [add_none, cell?_of hc', Nat.add_assoc, hg j (by omega)]
    simp)
  have hlies := liesAt_row (P := P) hco (c.size / P.cellsOf u) (p.base + off) (n + 1) (by rw [hco]; simp; omega)
  have h63 : ¬ (Int.ofNat (n + 1) > IntKind.i64.max) := by
    have : IntKind.i64.max = 9223372036854775807 := rfl
    rw [this]; simp only [Int.ofNat_eq_natCast]; omega
  have hneg : ¬ (Int.ofNat (n + 1) < 0) := by simp only [Int.ofNat_eq_natCast]; omega
  have hz : ¬ (Int.ofNat (n + 1) = 0) := by simp only [Int.ofNat_eq_natCast]; omega
  rw [hlen] at hl2
  have hdef : Builtin.unsafeString_ ats ty #[.pointer (some ⟨p.blk, p.base + off, none⟩), .int kd (.ofNat (n + 1))] =
      (do
        let n ← asInt (.int kd (.ofNat (n + 1)))
        let some pt := ats[0]? | stuck "unsafe.String: no argument types"
        if n < 0 then runtimePanic (.error "unsafe.String: len out of range")
        if n > IntKind.i64.max then unsupported (.unsafePointer "String: a length above the largest int")
        if n = 0 then pure (.string .empty)
        else if ← variablesAt ⟨p.blk, p.base + off, none⟩ (← elemOf pt) n.toNat then do
          let s ← loadBytes ⟨p.blk, p.base + off, none⟩ .empty n.toNat
          freeze ⟨p.blk, p.base + off, none⟩ n.toNat
          pure (.string s)
        else unsupported (.unsafePointer "String: not so many bytes at ptr")) := rfl
  rw [hdef, ha]
  have asI : ∀ (kd : IntKind) (n : Int) (w : World), (asInt (.int kd n)).run P w = .ok n w := fun _ _ _ => rfl
  have ht : (Int.ofNat (n + 1)).toNat = n + 1 := rfl
  simp only [Sem.run_bind, asI, Result.andThen_ok, if_neg hneg, if_neg h63, if_neg hz, elemOf, run_und hT hu, variablesAt, run_program, run_shape, hsh, ht, Sem.run_pure, hlies, if_true, hl2]
  rfl
end
end Go.Proofs.YtplgnjpeikamhaaGreatDoor.Xec

namespace Go.Proofs.YtplgnjpeikamhaaGreatDoor.Xec
variable {α β : Type}

section
variable {P : Program} {T : Tab} (hT : TabOk P T) {F : Nat → Prop} {e : Env} {m : AMem} {w : World} (hR : Rel T F e m w)
include hT hR

theorem abuiltin_ok {b : Builtin} {ats : Array TypeId} {ty : TypeId} {consts : Array Bool} {args : List AVal} {Args : List Value} (hv : VRels e args Args) {k : AVal → AMem → Option β} {r : β} (h : abuiltin T b ats args m k = some r) :
    ∃ a m', k a m' = some r ∧ DidN P T F e m w (builtin b ats ty consts Args.toArray) a m' := by
  unfold abuiltin at h
  split at h
  · rename_i t t2 l s x hat
    have ha : ats[0]? = some t := by rw [← Array.getElem?_toList, hat]; rfl
    have ha2 : ats[1]? = some t2 := by rw [← Array.getElem?_toList, hat]; rfl
    obtain ⟨S, r1, rfl, hs, hv⟩ := hv.cons
    obtain ⟨X, r2, rfl, hx, hv⟩ := hv.cons
    obtain rfl := hv.nil
    split at h
    · cases h
    · rename_i d hnd hu2
      obtain ⟨a, m', h1, h2⟩ := aappend_ok hT hR (ty := ty) ha ha2 hu2 (fun k hk => by subst hk; exact hnd _ rfl) h hs hx
      exact ⟨a, m', h1, h2.next⟩
    · cases h
  · rename_i t l d s hat
    have ha : ats[0]? = some t := by rw [← Array.getElem?_toList, hat]; rfl
    obtain ⟨D, r1, rfl, hd, hv⟩ := hv.cons
    obtain ⟨S, r2, rfl, hs, hv⟩ := hv.cons
    obtain rfl := hv.nil
    obtain ⟨a, m', h1, h2⟩ := acopy_ok hT hR (ty := ty) ha hd hs h
    exact ⟨a, m', h1, h2.next⟩
  · rename_i t l x hat
    have ha : ats[0]? = some t := by rw [← Array.getElem?_toList, hat]; rfl
    obtain ⟨X, r1, rfl, hx, hv⟩ := hv.cons
    obtain rfl := hv.nil
    obtain ⟨a, h1, h2⟩ := alen_ok hT hR (ty := ty) ha hx h
    exact ⟨a, m, h1, h2.next⟩
  · rename_i t l id off len c hat
    have ha : ats[0]? = some t := by rw [← Array.getElem?_toList, hat]; rfl
    obtain ⟨X, r1, rfl, hx, hv⟩ := hv.cons
    obtain rfl := hv.nil
    split at h
    · rename_i el hu
      simp only [VRel] at hx
      obtain ⟨p, cc, hp, hc, rfl⟩ := hx
      obtain ⟨rfl, _⟩ := hc
      refine ⟨_, m, h, DidV.next (DidV.pure hR (v := .int .i64 cc) ?_ (by simp only [VRel]; rfl))⟩
      simp [Builtin.cap_, ha, run_und hT hu, goInt]
    · cases h
  · rename_i t l x key hat
    have ha : ats[0]? = some t := by rw [← Array.getElem?_toList, hat]; rfl
    obtain ⟨X, r1, rfl, hx, hv⟩ := hv.cons
    obtain ⟨K, r2, rfl, hk, hv⟩ := hv.cons
    obtain rfl := hv.nil
    split at h
    · rename_i kt et id hu
      cases hf : keyFits T kt key with
      | false => rw [hf] at h; cases h
      | true =>
        rw [hf] at h
        simp only [cond_true] at h
        split at h
        · rename_i es c hb
          obtain ⟨m', h1, h2⟩ := adelete_ok hT hR (ty := ty) hu ha hf hb h hx hk
          exact ⟨_, m', h1, h2.next⟩
        · cases h
    · rename_i kt et hu
      cases hf : keyFits T kt key with
      | false => rw [hf] at h; cases h
      | true =>
        rw [hf] at h
        simp only [VRel] at hx
        subst hx
        refine ⟨_, m, h, DidV.next (DidV.pure hR (v := .tuple #[]) ?_ (undef_rel e))⟩
        unfold Builtin.delete_
        simp [ha, run_und hT hu, check_ok hT hf hk]
    · cases h
  · rename_i kd a k2 b
    obtain ⟨X, r1, rfl, hx, hv⟩ := hv.cons
    obtain ⟨Y, r2, rfl, hy, hv⟩ := hv.cons
    obtain rfl := hv.nil
    simp only [VRel] at hx hy
    subst hx; subst hy
    refine ⟨_, m, h, DidV.next (DidV.pure hR (v := .int kd (if b > a then b else a)) rfl (by simp only [VRel, intLe_decide]; by_cases hh : b ≤ a <;> simp [hh] <;> omega))⟩
  · rename_i kd a k2 b
    obtain ⟨X, r1, rfl, hx, hv⟩ := hv.cons
    obtain ⟨Y, r2, rfl, hy, hv⟩ := hv.cons
    obtain rfl := hv.nil
    simp only [VRel] at hx hy
    subst hx; subst hy
    refine ⟨_, m, h, DidV.next (DidV.pure hR (v := .int kd (if b < a then b else a)) rfl (by simp only [VRel, intLe_decide]; by_cases hh : a ≤ b <;> simp [hh] <;> omega))⟩
  · rename_i id off n c
    obtain ⟨X, r1, rfl, hx, hv⟩ := hv.cons
    obtain rfl := hv.nil
    simp only [VRel] at hx
    obtain ⟨p, cc, hp, hc, rfl⟩ := hx
    have h0 : cc ≠ 0 := by
      cases c <;> simp only [ACap.rel] at hc <;> omega
    refine ⟨_, m, h, DidV.next (DidV.pure hR (v := .pointer (some ⟨p.blk, p.base + off, none⟩)) (Lib.run_unsafeSliceData_row w ats ty _ _ _ h0) (by simp only [VRel]; exact ⟨p, hp, rfl⟩))⟩
  · obtain ⟨X, r1, rfl, hx, hv⟩ := hv.cons
    obtain rfl := hv.nil
    simp only [VRel] at hx
    subst hx
    exact ⟨_, m, h, DidV.next (DidV.pure hR (v := .pointer none) rfl (by simp only [VRel]))⟩
  · rename_i t l kd hat
    have ha : ats[0]? = some t := by rw [← Array.getElem?_toList, hat]; rfl
    obtain ⟨X, r1, rfl, hx, hv⟩ := hv.cons
    obtain ⟨Y, r2, rfl, hy, hv⟩ := hv.cons
    obtain rfl := hv.nil
    simp only [VRel] at hx hy
    subst hx; subst hy
    refine ⟨_, m, h, DidV.next (DidV.pure hR (v := .string .empty) ?_ (by simp only [VRel]; exact ⟨rfl, by simp⟩))⟩
    have hdef : Builtin.unsafeString_ ats ty #[.pointer none, .int kd (.ofNat 0)] =
      (do
        let n ← asInt (.int kd (.ofNat 0))
        let some pt := ats[0]? | stuck "unsafe.String: no argument types"
        if n < 0 then runtimePanic (.error "unsafe.String: len out of range")
        if n > IntKind.i64.max then unsupported (.unsafePointer "String: a length above the largest int")
        if n = 0 then pure (.string .empty)
        else runtimePanic (.error "unsafe.String: ptr is nil and len is not zero")) := rfl
    rw [hdef, ha]
    have hm : IntKind.i64.max = 9223372036854775807 := rfl
    simp [asInt, asIntOf, hm]
  · rename_i t l id off kd n hat
    have ha : ats[0]? = some t := by rw [← Array.getElem?_toList, hat]; rfl
    obtain ⟨X, r1, rfl, hx, hv⟩ := hv.cons
    obtain ⟨Y, r2, rfl, hy, hv⟩ := hv.cons
    obtain rfl := hv.nil
    simp only [VRel] at hy
    subst hy
    split at h
    · rename_i u el g gb fz ex cnt cs hu hb
      cases hc : (isU8 T u && Nat.beq u el && Nat.ble (n + 1) 16777216) with
      | false => rw [hc] at h; cases h
      | true =>
        rw [hc] at h
        simp only [cond_true] at h
        simp only [Bool.and_eq_true] at hc
        split at h
        · rename_i l hl
          rw [AMem.get_blks] at hb
          obtain ⟨s, m', h1, h2⟩ := aunsafeString_ok hT hR (ty := ty) ha hu hc.1.1 (beq_nat.1 hc.1.2) (ble_nat.1 hc.2) hb hl hx h
          exact ⟨_, m', h1, h2.next⟩
        · cases h
    · cases h
  · cases h
end
end Go.Proofs.YtplgnjpeikamhaaGreatDoor.Xec
