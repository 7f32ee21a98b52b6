/- The executor's steps are the machine's own, part 1. -/
import Derived.Test.YtplgnjpeikamhaaGreatDoorXa
import Derived.Calls
import Derived.Laws.Sem
import Derived.Laws.Cells
import Derived.Laws.StructEq
import Derived.Laws.Strings
set_option linter.unusedSectionVars false
set_option linter.unnecessarySimpa false
set_option linter.unusedVariables false
set_option linter.unusedSimpArgs false
namespace Go.Proofs.YtplgnjpeikamhaaGreatDoor.Xec
variable {α β : Type}

/-! ### The steps that hand on -/
theorem natK_eq (n : Nat) (k : Nat → β) : natK n k = k n := by cases n <;> rfl
theorem intK_eq (n : Int) (k : Int → β) : intK n k = k n := by cases n <;> simp [intK, natK_eq]
theorem lenK_eq (l : List α) : ∀ (n : Nat) (k : Nat → β), lenK l n k = k (n + l.length) := by
  induction l with
  | nil => intro n k; rfl
  | cons a r ih => intro n k; simp only [lenK, ih, List.length_cons]; congr 1; omega
theorem appK_eq {γ : Type} (a b : List γ) : ∀ (k : List γ → β), appK a b k = k (a ++ b) := by
  induction a with
  | nil => intro k; rfl
  | cons x r ih => intro k; simp [appK, ih]
theorem takeK_eq {γ : Type} (n : Nat) : ∀ (l : List γ) (k : List γ → β), takeK n l k = k (l.take n) := by
  induction n with
  | zero => intro l k; simp [takeK]
  | succ n ih => intro l k; cases l <;> simp [takeK, ih]
theorem bytesK_eq (l : List Nat) : ∀ (k : List AVal → β), bytesK l k = k (l.map fun b => .int .u8 (.ofNat b)) := by
  induction l with
  | nil => intro k; rfl
  | cons x r ih => intro k; simp [bytesK, ih]
theorem unbytesK_some (l : List AVal) : ∀ (k : List Nat → Option β) (r : β), unbytesK l k = some r →
    ∃ bs : List Nat, l = bs.map (fun b => .int .u8 (.ofNat b)) ∧ (∀ b ∈ bs, b < 256) ∧ k bs = some r := by
  induction l with
  | nil => intro k r h; exact ⟨[], rfl, by simp, h⟩
  | cons x t ih =>
    intro k r h
    unfold unbytesK at h
    split at h
    · rename_i heq; cases heq
    · rename_i b l' heq
      cases heq
      cases hb : Nat.blt b 256 with
      | false => rw [hb] at h; cases h
      | true =>
        rw [hb] at h
        obtain ⟨bs, e, hl, hk⟩ := ih _ _ h
        exact ⟨b :: bs, by simp [e], by intro c hc; rcases List.mem_cons.1 hc with rfl | hc; exact (Nat.blt_eq.mp hb); exact hl c hc, hk⟩
    · cases h

theorem beq_nat {a b : Nat} : Nat.beq a b = true ↔ a = b := by rw [Nat.beq_eq]
theorem beq_nat_false {a b : Nat} : Nat.beq a b = false ↔ a ≠ b := by
  cases h : Nat.beq a b with
  | true => simp [Nat.beq_eq.mp h]
  | false => simp; intro e; subst e; simp [Nat.beq_refl] at h
theorem ble_nat {a b : Nat} : Nat.ble a b = true ↔ a ≤ b := by simp [Nat.ble_eq]
theorem ble_nat_false {a b : Nat} : Nat.ble a b = false ↔ b < a := by
  cases h : Nat.ble a b with
  | true => have := ble_nat.1 h; simp; omega
  | false => simp; exact Nat.lt_of_not_le fun hh => by rw [ble_nat.2 hh] at h; cases h
theorem blt_nat {a b : Nat} : Nat.blt a b = true ↔ a < b := by rw [Nat.blt_eq]

/-! ### Trees -/
namespace Tr
theorem get_lf (n : Nat) : (Tr.lf : Tr α).get n = none := by unfold get; rfl
theorem get_nd_zero (l : Tr α) (v : Option α) (r : Tr α) : (Tr.nd l v r).get 0 = v := by simp [get]
theorem get_nd_succ (l : Tr α) (v : Option α) (r : Tr α) (m : Nat) : (Tr.nd l v r).get (m + 1) = bif Nat.beq (m % 2) 0 then l.get (m / 2) else r.get (m / 2) := by simp [get]

theorem setK_some : ∀ (f : Nat) (t : Tr α) (n : Nat) (v : Option α) (k : Tr α → Option β) (r : β), setK f t n v k = some r →
    ∃ t', k t' = some r ∧ ∀ i, t'.get i = if i = n then v else t.get i := by
  intro f
  induction f with
  | zero => intro t n v k r h; simp [setK] at h
  | succ f ih =>
    intro t n v k r h0
    have key : ∀ (l : Tr α) (x : Option α) (rr : Tr α), (∀ i, (Tr.nd l x rr).get i = t.get i) →
        (match n with
          | 0 => k (.nd l v rr)
          | m + 1 => bif Nat.beq (m % 2) 0 then setK f l (m / 2) v fun l' => k (.nd l' x rr) else setK f rr (m / 2) v fun r' => k (.nd l x r')) = some r →
        ∃ t', k t' = some r ∧ ∀ i, t'.get i = if i = n then v else t.get i := by
      intro l x rr ht hh
      cases n with
      | zero =>
        refine ⟨_, hh, fun i => ?_⟩
        cases i with
        | zero => simp [get_nd_zero]
        | succ i => rw [← ht, get_nd_succ, get_nd_succ]; simp
      | succ m =>
        dsimp only at hh
        cases hp : Nat.beq (m % 2) 0 with
        | true =>
          rw [hp] at hh
          obtain ⟨l', hk, hl⟩ := ih _ _ _ _ _ hh
          refine ⟨_, hk, fun i => ?_⟩
          cases i with
          | zero => rw [← ht, get_nd_zero, get_nd_zero]; simp
          | succ i =>
            rw [← ht, get_nd_succ, get_nd_succ, hl]
            have hm := beq_nat.1 hp
            cases hq : Nat.beq (i % 2) 0 with
            | true =>
              have hi := beq_nat.1 hq
              simp only [cond_true]
              by_cases e : i / 2 = m / 2
              · have : i = m := by omega
                simp [this]
              · have : i ≠ m := fun h => e (by rw [h])
                simp [e, this]
            | false =>
              have hi := beq_nat_false.1 hq
              have : i ≠ m := fun h => hi (by rw [h]; exact hm)
              simp [this]
        | false =>
          rw [hp] at hh
          obtain ⟨l', hk, hl⟩ := ih _ _ _ _ _ hh
          refine ⟨_, hk, fun i => ?_⟩
          cases i with
          | zero => rw [← ht, get_nd_zero, get_nd_zero]; simp
          | succ i =>
            rw [← ht, get_nd_succ, get_nd_succ, hl]
            have hm := beq_nat_false.1 hp
            cases hq : Nat.beq (i % 2) 0 with
            | true =>
              have hi := beq_nat.1 hq
              have : i ≠ m := fun h => hm (by rw [← h]; exact hi)
              simp [this]
            | false =>
              have hi := beq_nat_false.1 hq
              simp only [cond_false]
              by_cases e : i / 2 = m / 2
              · have : i = m := by omega
                simp [this]
              · have : i ≠ m := fun h => e (by rw [h])
                simp [e, this]
    cases t with
    | nd l x rr => exact key l x rr (fun _ => rfl) (by cases n <;> simpa [setK] using h0)
    | lf =>
      refine key .lf none .lf (fun i => ?_) ?_
      · cases i with
        | zero => rw [get_nd_zero, get_lf]
        | succ i => rw [get_nd_succ, get_lf, get_lf]; cases Nat.beq (i % 2) 0 <;> simp
      · unfold setK at h0
        cases n with
        | zero => simpa using h0
        | succ m => simpa using h0
end Tr

/-! ### Where things lie -/
structure Plc where
  blk : Nat
  base : Nat
  cap : Nat

structure Env where
  pl : Nat → Option Plc
  sy : Nat → Value
  /-- whom the iterator in a block has handed out -/
  it : Nat → List Nat

/-- the bytes of a text -/
def toBytes (l : List Nat) : ByteArray := ⟨(l.map Nat.toUInt8).toArray⟩

def ACap.rel (p : Plc) (len : Nat) : ACap → Nat → Prop
  | .k n, c => c = n ∧ len ≤ n
  | .u eo, c => c = p.cap - eo ∧ eo + len ≤ p.cap

def boundOk (lo hi : Option Int) (n : Int) : Prop := (∀ l, lo = some l → l ≤ n) ∧ (∀ h, hi = some h → n ≤ h)

mutual
/-- value v is what a says -/
def VRel (e : Env) : AVal → Value → Prop
  | .bool b, v => v = .bool b
  | .int k n, v => v = .int k n
  | .str l, v => v = .string (toBytes l) ∧ ∀ b ∈ l, b < 256
  | .nilp, v => v = .pointer none
  | .ptr id off, v => ∃ p, e.pl id = some p ∧ v = .pointer (some ⟨p.blk, p.base + off, none⟩)
  | .nils, v => v = .slice none 0 0
  | .slice id off len c, v => ∃ p n, e.pl id = some p ∧ c.rel p len n ∧ v = .slice (some ⟨p.blk, p.base + off, none⟩) len n
  | .esl id, v => ∃ p, e.pl id = some p ∧ v = .slice (some ⟨p.blk, p.base, none⟩) 0 p.cap
  | .nilm, v => v = .map none
  | .map id, v => ∃ p, e.pl id = some p ∧ v = .map (some p.blk)
  | .func fn first captured, v => (∀ l, fn ≠ .yield l) ∧ ∃ fs cs, VRels e first fs ∧ VRels e captured cs ∧ v = .func fn fs.toArray cs.toArray
  | .yld id, v => ∃ p, e.pl id = some p ∧ v = .func (.yield p.blk) #[] #[]
  | .nilf, v => v = .nilFunc
  | .iface t a, v => ∃ u, VRel e a u ∧ v = .iface t u
  | .nili, v => v = .nilIface
  | .agg l, v => ∃ vs, VRels e l vs ∧ v = .agg vs.toArray
  | .tup l, v => ∃ vs, VRels e l vs ∧ v = .tuple vs.toArray
  | .sym k, v => v = e.sy k ∧ v.oneCell' = true
  | .symi k kd lo hi, v => v = e.sy k ∧ ∃ n, v = .int kd n ∧ boundOk lo hi n ∧ kd.wrap n = n
  | .syms k ne, v => v = e.sy k ∧ ∃ s, v = .string s ∧ ∀ l ∈ ne, s ≠ toBytes l
  | .junk, _ => True
def VRels (e : Env) : List AVal → List Value → Prop
  | [], [] => True
  | a :: l, v :: vs => VRel e a v ∧ VRels e l vs
  | _, _ => False
end

/-- e' knows what e knows -/
def Env.le (e e' : Env) : Prop := e.sy = e'.sy ∧ ∀ i p, e.pl i = some p → e'.pl i = some p

theorem Env.le_refl (e : Env) : e.le e := ⟨rfl, fun _ _ h => h⟩
theorem Env.le_trans {a b c : Env} (h : a.le b) (h' : b.le c) : a.le c := ⟨h.1.trans h'.1, fun i p hp => h'.2 i p (h.2 i p hp)⟩

mutual
theorem VRel.mono {e e' : Env} (h : e.le e') : ∀ (a : AVal) (v : Value), VRel e a v → VRel e' a v
  | .bool _, _, hv => by simpa only [VRel] using hv
  | .int _ _, _, hv => by simpa only [VRel] using hv
  | .str _, _, hv => by simpa only [VRel] using hv
  | .nilp, _, hv => by simpa only [VRel] using hv
  | .ptr id off, v, hv => by
      simp only [VRel] at hv ⊢
      obtain ⟨p, hp, rfl⟩ := hv
      exact ⟨p, h.2 _ _ hp, rfl⟩
  | .nils, _, hv => by simpa only [VRel] using hv
  | .slice id off len c, v, hv => by
      simp only [VRel] at hv ⊢
      obtain ⟨p, n, hp, hc, rfl⟩ := hv
      exact ⟨p, n, h.2 _ _ hp, hc, rfl⟩
  | .esl id, v, hv => by
      simp only [VRel] at hv ⊢
      obtain ⟨p, hp, rfl⟩ := hv
      exact ⟨p, h.2 _ _ hp, rfl⟩
  | .nilm, _, hv => by simpa only [VRel] using hv
  | .map id, v, hv => by
      simp only [VRel] at hv ⊢
      obtain ⟨p, hp, rfl⟩ := hv
      exact ⟨p, h.2 _ _ hp, rfl⟩
  | .func fn a b, v, hv => by
      simp only [VRel] at hv ⊢
      obtain ⟨hn, fs, cs, h1, h2, rfl⟩ := hv
      exact ⟨hn, fs, cs, VRels.mono h a fs h1, VRels.mono h b cs h2, rfl⟩
  | .yld id, v, hv => by
      simp only [VRel] at hv ⊢
      obtain ⟨p, hp, rfl⟩ := hv
      exact ⟨p, h.2 _ _ hp, rfl⟩
  | .nilf, _, hv => by simpa only [VRel] using hv
  | .iface t a, v, hv => by
      simp only [VRel] at hv ⊢
      obtain ⟨u, hu, rfl⟩ := hv
      exact ⟨u, VRel.mono h a u hu, rfl⟩
  | .nili, _, hv => by simpa only [VRel] using hv
  | .agg l, v, hv => by
      simp only [VRel] at hv ⊢
      obtain ⟨u, hu, rfl⟩ := hv
      exact ⟨u, VRels.mono h l u hu, rfl⟩
  | .tup l, v, hv => by
      simp only [VRel] at hv ⊢
      obtain ⟨u, hu, rfl⟩ := hv
      exact ⟨u, VRels.mono h l u hu, rfl⟩
  | .sym _, _, hv => by simp only [VRel] at hv ⊢; rw [← h.1]; exact hv
  | .symi _ _ _ _, _, hv => by simp only [VRel] at hv ⊢; rw [← h.1]; exact hv
  | .syms _ _, _, hv => by simp only [VRel] at hv ⊢; rw [← h.1]; exact hv
  | .junk, _, _ => by simp only [VRel]
theorem VRels.mono {e e' : Env} (h : e.le e') : ∀ (l : List AVal) (vs : List Value), VRels e l vs → VRels e' l vs
  | [], [], _ => by simp only [VRels]
  | [], _ :: _, hv => by simp only [VRels] at hv
  | _ :: _, [], hv => by simp only [VRels] at hv
  | a :: l, v :: vs, hv => by
      simp only [VRels] at hv ⊢
      exact ⟨VRel.mono h a v hv.1, VRels.mono h l vs hv.2⟩
end

theorem VRels.nil {e : Env} {vs : List Value} (h : VRels e [] vs) : vs = [] := by
  cases vs with
  | nil => rfl
  | cons _ _ => simp [VRels] at h
theorem VRels.cons {e : Env} {a : AVal} {l : List AVal} {vs : List Value} (h : VRels e (a :: l) vs) : ∃ v r, vs = v :: r ∧ VRel e a v ∧ VRels e l r := by
  cases vs with
  | nil => simp [VRels] at h
  | cons v r => simp only [VRels] at h; exact ⟨v, r, rfl, h.1, h.2⟩
theorem VRels.mk_nil (e : Env) : VRels e [] [] := by simp only [VRels]
theorem VRels.mk_cons {e : Env} {a : AVal} {l : List AVal} {v : Value} {vs : List Value} (h : VRel e a v) (h' : VRels e l vs) : VRels e (a :: l) (v :: vs) := by
  simp only [VRels]; exact ⟨h, h'⟩
theorem VRels.length {e : Env} : ∀ {l : List AVal} {vs : List Value}, VRels e l vs → vs.length = l.length
  | [], vs, h => by rw [h.nil]; rfl
  | a :: l, vs, h => by obtain ⟨v, r, rfl, _, h'⟩ := h.cons; simp [h'.length]
theorem VRels.get {e : Env} : ∀ {l : List AVal} {vs : List Value} {i : Nat} {a : AVal}, VRels e l vs → l[i]? = some a → ∃ v, vs[i]? = some v ∧ VRel e a v
  | [], _, _, _, _, hi => by simp at hi
  | b :: l, vs, i, a, h, hi => by
    obtain ⟨v, r, rfl, hb, h'⟩ := h.cons
    cases i with
    | zero => simp at hi; subst hi; exact ⟨v, by simp, hb⟩
    | succ i => simp at hi; obtain ⟨u, hu, ha⟩ := h'.get hi; exact ⟨u, by simpa using hu, ha⟩
theorem VRels.append {e : Env} : ∀ {l l' : List AVal} {vs vs' : List Value}, VRels e l vs → VRels e l' vs' → VRels e (l ++ l') (vs ++ vs')
  | [], _, _, _, h, h' => by rw [h.nil]; exact h'
  | a :: l, _, _, _, h, h' => by obtain ⟨v, r, rfl, ha, hr⟩ := h.cons; exact VRels.mk_cons ha (hr.append h')
theorem VRels.drop {e : Env} : ∀ (n : Nat) {l : List AVal} {vs : List Value}, VRels e l vs → VRels e (l.drop n) (vs.drop n)
  | 0, _, _, h => h
  | n + 1, [], _, h => by rw [h.nil]; simp only [List.drop_nil]; exact VRels.mk_nil e
  | n + 1, a :: l, _, h => by obtain ⟨v, r, rfl, ha, hr⟩ := h.cons; simpa using hr.drop n
theorem VRels.take {e : Env} : ∀ (n : Nat) {l : List AVal} {vs : List Value}, VRels e l vs → VRels e (l.take n) (vs.take n)
  | 0, _, _, h => by simp only [List.take_zero]; exact VRels.mk_nil e
  | n + 1, [], _, h => by rw [h.nil]; simp only [List.take_nil]; exact VRels.mk_nil e
  | n + 1, a :: l, _, h => by obtain ⟨v, r, rfl, ha, hr⟩ := h.cons; simp only [List.take_succ_cons]; exact VRels.mk_cons ha (hr.take n)
theorem VRels.of_get {e : Env} : ∀ {l : List AVal} {vs : List Value}, l.length = vs.length → (∀ (i : Nat) (a : AVal) (v : Value), l[i]? = some a → vs[i]? = some v → VRel e a v) → VRels e l vs
  | [], [], _, _ => VRels.mk_nil e
  | [], _ :: _, h, _ => by simp at h
  | _ :: _, [], h, _ => by simp at h
  | a :: l, v :: vs, h, hg => VRels.mk_cons (hg 0 a v (by simp) (by simp)) (VRels.of_get (by simpa using h) fun i b u hb hu => hg (i + 1) b u (by simpa using hb) (by simpa using hu))

theorem VRel.single {e : Env} {a : AVal} {v : Value} (h : VRel e a v) (hs : a.single = true) : v.oneCell' = true := by
  cases a <;> simp only [VRel] at h <;> first
    | (subst h; rfl)
    | (obtain ⟨rfl, _⟩ := h; rfl)
    | (obtain ⟨p, _, rfl⟩ := h; rfl)
    | (obtain ⟨p, n, _, _, rfl⟩ := h; rfl)
    | (obtain ⟨_, _, _, _, _, rfl⟩ := h; rfl)
    | (simp [AVal.single] at hs; done)
    | exact h.2
    | (obtain ⟨_, n, rfl, _⟩ := h; rfl)
theorem VRel.cells {e : Env} {a : AVal} {v : Value} (h : VRel e a v) (hj : (match a with | .junk => false | _ => true) = true) : VRels e a.cells v.cells.toList := by
  by_cases ha : ∃ l, a = .agg l
  · obtain ⟨l, rfl⟩ := ha
    simp only [VRel] at h
    obtain ⟨vs, hv, rfl⟩ := h
    simpa [AVal.cells, Value.cells] using hv
  · have h1 : a.cells = [a] := by cases a <;> first | rfl | exact (ha ⟨_, rfl⟩).elim
    have h2 : v.cells = #[v] := by
      by_cases hs : a.single = true
      · have := h.single hs
        cases v <;> first | rfl | simp [Value.oneCell'] at this
      · cases a <;> simp [AVal.single] at hs hj
        · exact (ha ⟨_, rfl⟩).elim
        · simp only [VRel] at h; obtain ⟨_, _, rfl⟩ := h; rfl
    rw [h1, h2]
    exact VRels.mk_cons h (VRels.mk_nil e)
end Go.Proofs.YtplgnjpeikamhaaGreatDoor.Xec

namespace Go.Proofs.YtplgnjpeikamhaaGreatDoor.Xec
variable {α β : Type}

/-- the temporaries -/
def TRel (e : Env) (tm : Tr AVal) (n : Nat) (arr : Array Value) : Prop :=
  arr.size = n ∧ ∀ i, VRel e ((tm.get i).getD aundef) (arr.getD i undef)

theorem TRel.mono {e e' : Env} (h : e.le e') {tm : Tr AVal} {n : Nat} {arr : Array Value} (ht : TRel e tm n arr) : TRel e' tm n arr :=
  ⟨ht.1, fun i => (ht.2 i).mono h⟩

theorem undef_rel (e : Env) : VRel e aundef undef := by
  simp only [aundef, VRel]
  exact ⟨[], VRels.mk_nil e, rfl⟩

def ABlk.grp : ABlk → Option Nat
  | .row _ g _ _ _ _ _ _ => g
  | _ => none
def ABlk.gb : ABlk → Nat
  | .row _ _ gb _ _ _ _ _ => gb
  | _ => 0

def fzOk (st : Bool) (fr : Nat × Nat) (lo size : Nat) : Prop := fr.1 = fr.2 ∨ (if st then size ≤ fr.1 else fr.2 ≤ lo)

theorem fzOk.free {st : Bool} {fr : Nat × Nat} {lo size o : Nat} (h : fzOk st fr lo size) (h1 : lo ≤ o) (h2 : o < size) : (decide (fr.1 ≤ o) && decide (o < fr.2)) = false := by
  unfold fzOk at h
  rcases h with h | h
  · simp; omega
  · cases st <;> simp at h <;> simp <;> omega

inductive EntsRel (e : Env) : List AEnt → List MapEntry → Prop where
  | nil : EntsRel e [] []
  | cons {a : AEnt} {x : MapEntry} {l : List AEnt} {xs : List MapEntry} : VRel e a.key x.key → VRel e a.val x.val → x.born = a.born → EntsRel e l xs → EntsRel e (a :: l) (x :: xs)

theorem EntsRel.mono {e e' : Env} (h : e.le e') {l : List AEnt} {xs : List MapEntry} (hl : EntsRel e l xs) : EntsRel e' l xs := by
  induction hl with
  | nil => exact .nil
  | cons h1 h2 h3 _ ih => exact .cons (h1.mono h) (h2.mono h) h3 ih

def DefRel (e : Env) (d : ADef) (D : Deferred) : Prop :=
  match d.tgt with
  | .fn fn cap => (∀ l, fn ≠ .yield l) ∧ ∃ cs as, D.target = .fn fn cs.toArray ∧ D.args = as.toArray ∧ VRels e cap cs ∧ VRels e d.args as
  | .collected id => ∃ p, e.pl id = some p ∧ D = { target := .collected p.blk, args := #[] }

theorem DefRel.mono {e e' : Env} (h : e.le e') {d : ADef} {D : Deferred} (hd : DefRel e d D) : DefRel e' d D := by
  unfold DefRel at *
  split
  · rename_i fn cap heq
    rw [heq] at hd
    obtain ⟨hn, cs, as, h1, h2, h3, h4⟩ := hd
    exact ⟨hn, cs, as, h1, h2, h3.mono h, h4.mono h⟩
  · rename_i id heq
    rw [heq] at hd
    obtain ⟨p, hp, h1⟩ := hd
    exact ⟨p, h.2 _ _ hp, h1⟩

inductive DefsRel (e : Env) : List ADef → List Deferred → Prop where
  | nil : DefsRel e [] []
  | cons {d : ADef} {D : Deferred} {l : List ADef} {L : List Deferred} : DefRel e d D → DefsRel e l L → DefsRel e (d :: l) (D :: L)

theorem DefsRel.mono {e e' : Env} (h : e.le e') {l : List ADef} {L : List Deferred} (hl : DefsRel e l L) : DefsRel e' l L := by
  induction hl with
  | nil => exact .nil
  | cons h1 _ ih => exact .cons (h1.mono h) ih

theorem DefsRel.append {e : Env} {l l' : List ADef} {L L' : List Deferred} (h : DefsRel e l L) (h' : DefsRel e l' L') : DefsRel e (l ++ l') (L ++ L') := by
  induction h with
  | nil => exact h'
  | cons h1 _ ih => exact .cons h1 ih

/-- what the executor holds of a block, and the block -/
def Real (T : Tab) (e : Env) (heap : Array Obj) (p : Plc) : ABlk → Prop
  | .row elem _ _ fz st ex n cs => ∃ (c : Array Value) (fr : Nat × Nat), heap[p.blk]? = some (.cells c elem fr) ∧
      (∀ i, i < n → ∃ a v, cs.get i = some a ∧ c[p.base + i]? = some v ∧ VRel e a v) ∧
      fzOk st fr (p.base + fz) c.size ∧ p.base + n ≤ c.size ∧ (∀ s, T.size elem = some s → p.base + p.cap * s ≤ c.size) ∧ (ex = true → p.base = 0 ∧ c.size = n)
  | .map es clock => ∃ xs, heap[p.blk]? = some (.map xs clock) ∧ EntsRel e es xs.toList
  | .siter s pos => heap[p.blk]? = some (.stringIter (toBytes s) pos) ∧ (∀ b ∈ s, b < 256) ∧ p.base = 0
  | .miter mo since seen last => ∃ r, (match mo with
      | none => r = none
      | some id => ∃ q, e.pl id = some q ∧ r = some q.blk) ∧ heap[p.blk]? = some (.mapIter r since seen.toArray last) ∧ p.base = 0
  | .cur id since born last => ∃ q, e.pl id = some q ∧ heap[p.blk]? = some (.mapIter (some q.blk) since (e.it p.blk).toArray last) ∧ (e.it p.blk).getLast? = some born ∧ p.base = 0
  | .loop l => ∃ (q : Plc) (arr : Array Value), e.pl l.defers = some q ∧ TRel e l.tm l.nt arr ∧
      heap[p.blk]? = some (.loop { state := l.state, pending := l.pending, fn := l.fn, tmps := arr, params := l.params.toArray, assign := l.assign, body := l.body, defers := q.blk })
  | .defs none => heap[p.blk]? = some (.deferred none)
  | .defs (some l) => ∃ L, DefsRel e l L ∧ heap[p.blk]? = some (.deferred (some L))

theorem Real.mono {T : Tab} {e e' : Env} {h h' : Array Obj} {p : Plc} {b : ABlk} (hle : e.le e') (hit : e.it p.blk = e'.it p.blk) (hh : h'[p.blk]? = h[p.blk]?) (hr : Real T e h p b) : Real T e' h' p b := by
  cases b with
  | row elem g gb fz st ex n cs =>
    obtain ⟨c, fr, h1, h2, h3⟩ := hr
    exact ⟨c, fr, by rw [hh]; exact h1, fun i hi => (h2 i hi).imp fun a ⟨v, x, y, z⟩ => ⟨v, x, y, z.mono hle⟩, h3⟩
  | map es clock =>
    obtain ⟨xs, h1, h2⟩ := hr
    exact ⟨xs, by rw [hh]; exact h1, h2.mono hle⟩
  | siter s pos => exact ⟨by rw [hh]; exact hr.1, hr.2⟩
  | miter mo since seen last =>
    obtain ⟨r, h1, h2, h3⟩ := hr
    refine ⟨r, ?_, by rw [hh]; exact h2, h3⟩
    cases mo with
    | none => exact h1
    | some id => obtain ⟨q, hq, hr⟩ := h1; exact ⟨q, hle.2 _ _ hq, hr⟩
  | cur id since born last =>
    obtain ⟨q, h1, h2, h3, h4⟩ := hr
    exact ⟨q, hle.2 _ _ h1, by rw [hh, ← hit]; exact h2, by rw [← hit]; exact h3, h4⟩
  | loop l =>
    obtain ⟨q, arr, h1, h2, h3⟩ := hr
    exact ⟨q, arr, hle.2 _ _ h1, h2.mono hle, by rw [hh]; exact h3⟩
  | defs o =>
    cases o with
    | none => exact (by rw [hh]; exact hr : h'[p.blk]? = some (.deferred none))
    | some l => obtain ⟨L, h1, h2⟩ := hr; exact ⟨L, h1.mono hle, by rw [hh]; exact h2⟩

theorem Real.lt {T : Tab} {e : Env} {h : Array Obj} {p : Plc} {b : ABlk} (hr : Real T e h p b) : p.blk < h.size := by
  have key : ∀ o : Obj, h[p.blk]? = some o → p.blk < h.size := fun o ho => by
    rcases Nat.lt_or_ge p.blk h.size with hlt | hge
    · exact hlt
    · simp [Array.getElem?_eq_none hge] at ho
  cases b with
  | row => obtain ⟨c, fr, h1, _⟩ := hr; exact key _ h1
  | map => obtain ⟨xs, h1, _⟩ := hr; exact key _ h1
  | siter => exact key _ hr.1
  | miter => obtain ⟨r, _, h2, _⟩ := hr; exact key _ h2
  | cur => obtain ⟨q, _, h2, _⟩ := hr; exact key _ h2
  | loop => obtain ⟨q, arr, _, _, h3⟩ := hr; exact key _ h3
  | defs o => cases o with
    | none => exact key _ hr
    | some l => obtain ⟨L, _, h2⟩ := hr; exact key _ h2

def SameGrp (p q : Plc) (b b' : ABlk) : Prop := ∃ g, b.grp = some g ∧ b'.grp = some g ∧ p.base + b'.gb = q.base + b.gb

theorem SameGrp.symm {p q : Plc} {b b' : ABlk} (h : SameGrp p q b b') : SameGrp q p b' b := by
  obtain ⟨g, h1, h2, h3⟩ := h
  exact ⟨g, h2, h1, h3.symm⟩

/-- the executor's memory, and the world's; F: the blocks that are not the executor's -/
structure Rel (T : Tab) (F : Nat → Prop) (e : Env) (m : AMem) (w : World) : Prop where
  real : ∀ i b p, m.blks.get i = some b → e.pl i = some p → Real T e w.heap p b
  sep : ∀ i j p q b b', i ≠ j → m.blks.get i = some b → m.blks.get j = some b' → e.pl i = some p → e.pl j = some q → p.blk = q.blk → SameGrp p q b b'
  grp : ∀ i b g, m.blks.get i = some b → b.grp = some g → ∃ l, m.grps.get g = some l ∧ i ∈ l
  fresh : ∀ i, m.next ≤ i → e.pl i = none ∧ m.blks.get i = none
  frame : ∀ i b p, m.blks.get i = some b → e.pl i = some p → ¬ F p.blk
  size : ∀ b, F b → b < w.heap.size
  glob : ∀ g, g < T.ng → ∃ c, e.pl g = some ⟨g, 0, c⟩

/-- the new environment knows no more of the old numbers -/
structure Ext (m : AMem) (e e' : Env) : Prop where
  sy : e.sy = e'.sy
  it : e.it = e'.it
  pl : ∀ i, i < m.next → e'.pl i = e.pl i

theorem Ext.refl (m : AMem) (e : Env) : Ext m e e := ⟨rfl, rfl, fun _ _ => rfl⟩
theorem Ext.trans {m m' : AMem} {a b c : Env} (h : Ext m a b) (h' : Ext m' b c) (hn : m.next ≤ m'.next) : Ext m a c :=
  ⟨h.sy.trans h'.sy, h.it.trans h'.it, fun i hi => (h'.pl i (Nat.lt_of_lt_of_le hi hn)).trans (h.pl i hi)⟩

theorem Rel.le {T : Tab} {F : Nat → Prop} {e e' : Env} {m : AMem} {w : World} (h : Rel T F e m w) (hx : Ext m e e') : e.le e' :=
  ⟨hx.sy, fun i p hp => by
    rcases Nat.lt_or_ge i m.next with hlt | hge
    · rw [hx.pl i hlt]; exact hp
    · rw [(h.fresh i hge).1] at hp; cases hp⟩

/-- what a run keeps -/
structure Keep (F : Nat → Prop) (w w' : World) : Prop where
  blk : ∀ b, F b → w'.heap[b]? = w.heap[b]?
  grow : w.heap.size ≤ w'.heap.size
  os : w'.os = w.os
  output : w'.output = w.output
  tape : w'.tape = w.tape

theorem Keep.refl (F : Nat → Prop) (w : World) : Keep F w w := ⟨fun _ _ => rfl, Nat.le_refl _, rfl, rfl, rfl⟩
theorem Keep.trans {F : Nat → Prop} {a b c : World} (h : Keep F a b) (h' : Keep F b c) : Keep F a c :=
  ⟨fun x hx => (h'.blk x hx).trans (h.blk x hx), Nat.le_trans h.grow h'.grow, h'.os.trans h.os, h'.output.trans h.output, h'.tape.trans h.tape⟩

/-- Rel looks at the heap alone -/
theorem Rel.of_heap {T : Tab} {F : Nat → Prop} {e : Env} {m : AMem} {w w' : World} (h : Rel T F e m w) (hh : w'.heap = w.heap) : Rel T F e m w' :=
  ⟨by rw [hh]; exact h.real, h.sep, h.grp, h.fresh, h.frame, by rw [hh]; exact h.size, h.glob⟩

/-- a new place -/
def Env.add (e : Env) (i : Nat) (p : Plc) : Env := ⟨fun j => if j = i then some p else e.pl j, e.sy, e.it⟩

theorem Ext.add (m : AMem) (e : Env) (p : Plc) : Ext m e (e.add m.next p) :=
  ⟨rfl, rfl, fun i hi => by simp [Env.add, Nat.ne_of_lt hi]⟩

theorem get?_push_lt {h : Array Obj} {o : Obj} {b : Nat} (hb : b < h.size) : (h.push o)[b]? = h[b]? := by
  rw [Array.getElem?_push]; simp [Nat.ne_of_lt hb]

/-- **A new block.** -/
theorem Rel.allocG {T : Tab} {F : Nat → Prop} {e : Env} {m m' : AMem} {w : World} (h : Rel T F e m w) (o : ABlk) (ob : Obj) (cap : Nat)
    (hg : ∀ g, o.grp = some g → ∃ l, m'.grps.get g = some l ∧ m.next ∈ l) (hn : m'.next = m.next + 1) (hgr : ∀ g l, m.grps.get g = some l → ∃ l', m'.grps.get g = some l' ∧ ∀ x ∈ l, x ∈ l') (hb : ∀ i, m'.blks.get i = if i = m.next then some o else m.blks.get i)
    (hr : Real T (e.add m.next ⟨w.heap.size, 0, cap⟩) (w.heap.push ob) ⟨w.heap.size, 0, cap⟩ o) :
    Rel T F (e.add m.next ⟨w.heap.size, 0, cap⟩) m' { w with heap := w.heap.push ob } ∧ Ext m e (e.add m.next ⟨w.heap.size, 0, cap⟩) ∧ Keep F w { w with heap := w.heap.push ob } := by
  have hx := Ext.add m e ⟨w.heap.size, 0, cap⟩
  have hle := h.le hx
  have old : ∀ i p, i ≠ m.next → (e.add m.next ⟨w.heap.size, 0, cap⟩).pl i = some p → e.pl i = some p := fun i p hi hp => by simpa [Env.add, hi] using hp
  have new : ∀ p, (e.add m.next ⟨w.heap.size, 0, cap⟩).pl m.next = some p → p = ⟨w.heap.size, 0, cap⟩ := fun p hp => by simpa [Env.add, eq_comm] using hp
  have lt : ∀ i b p, m.blks.get i = some b → e.pl i = some p → p.blk < w.heap.size := fun i b p hb hp => (h.real i b p hb hp).lt
  refine ⟨⟨?_, ?_, ?_, ?_, ?_, ?_, ?_⟩, hx, ⟨fun b hb => get?_push_lt (h.size b hb), by simp, rfl, rfl, rfl⟩⟩
  · intro i b p hi hp
    rw [hb] at hi
    by_cases e1 : i = m.next
    · subst e1; simp at hi; subst hi; obtain rfl := new p hp; exact hr
    · simp [e1] at hi
      have hp' := old i p e1 hp
      exact (h.real i b p hi hp').mono hle rfl (get?_push_lt (lt i b p hi hp'))
  · intro i j p q b b' hij hi hj hp hq hpq
    rw [hb] at hi hj
    by_cases e1 : i = m.next
    · by_cases e2 : j = m.next
      · exact (hij (e1.trans e2.symm)).elim
      · subst e1
        simp [e2] at hj
        have hq' := old j q e2 hq
        obtain rfl := new p hp
        exact absurd hpq (Nat.ne_of_gt (lt j b' q hj hq'))
    · simp [e1] at hi
      have hp' := old i p e1 hp
      by_cases e2 : j = m.next
      · subst e2
        obtain rfl := new q hq
        exact absurd hpq (Nat.ne_of_lt (lt i b p hi hp'))
      · simp [e2] at hj
        exact h.sep i j p q b b' hij hi hj hp' (old j q e2 hq) hpq
  · intro i b g hi hbg
    rw [hb] at hi
    by_cases e1 : i = m.next
    · subst e1; simp at hi; subst hi; exact hg g hbg
    · simp [e1] at hi
      obtain ⟨l, hl, hil⟩ := h.grp i b g hi hbg
      obtain ⟨l', hl', hs⟩ := hgr g l hl
      exact ⟨l', hl', hs i hil⟩
  · intro i hi
    have hne : i ≠ m.next := by omega
    rw [hb]
    simp only [Env.add, hne, if_false]
    exact h.fresh i (by omega)
  · intro i b p hi hp
    rw [hb] at hi
    by_cases e1 : i = m.next
    · subst e1
      obtain rfl := new p hp
      exact fun hF => Nat.lt_irrefl _ (h.size _ hF)
    · simp [e1] at hi
      exact h.frame i b p hi (old i p e1 hp)
  · intro b hF; have := h.size b hF; simp; omega
  · intro g hg'
    obtain ⟨c, hc⟩ := h.glob g hg'
    exact ⟨c, hle.2 _ _ hc⟩

theorem Rel.alloc {T : Tab} {F : Nat → Prop} {e : Env} {m m' : AMem} {w : World} (h : Rel T F e m w) (o : ABlk) (ob : Obj) (cap : Nat)
    (hg : o.grp = none) (hn : m'.next = m.next + 1) (hgr : m'.grps = m.grps) (hb : ∀ i, m'.blks.get i = if i = m.next then some o else m.blks.get i)
    (hr : Real T (e.add m.next ⟨w.heap.size, 0, cap⟩) (w.heap.push ob) ⟨w.heap.size, 0, cap⟩ o) :
    Rel T F (e.add m.next ⟨w.heap.size, 0, cap⟩) m' { w with heap := w.heap.push ob } ∧ Ext m e (e.add m.next ⟨w.heap.size, 0, cap⟩) ∧ Keep F w { w with heap := w.heap.push ob } :=
  h.allocG o ob cap (fun g hgg => by rw [hg] at hgg; cases hgg) hn (fun g l hl => ⟨l, by rw [hgr]; exact hl, fun _ hx => hx⟩) hb hr

/-- **A new row in a block that is there**: what append leaves where there was room. -/
theorem Rel.share {T : Tab} {F : Nat → Prop} {e : Env} {m m' : AMem} {w : World} (h : Rel T F e m w) {id : Nat} {b0 : ABlk} {p : Plc} (o : ABlk) (off cap : Nat)
    (h0 : m.blks.get id = some b0) (hp : e.pl id = some p) {g : Nat} (hg0 : b0.grp = some g) (hgo : o.grp = some g) (hgb : o.gb = b0.gb + off)
    (hg : ∃ l, m'.grps.get g = some l ∧ m.next ∈ l) (hn : m'.next = m.next + 1) (hgr : ∀ g l, m.grps.get g = some l → ∃ l', m'.grps.get g = some l' ∧ ∀ x ∈ l, x ∈ l')
    (hb : ∀ i, m'.blks.get i = if i = m.next then some o else m.blks.get i) (hr : Real T (e.add m.next ⟨p.blk, p.base + off, cap⟩) w.heap ⟨p.blk, p.base + off, cap⟩ o) :
    Rel T F (e.add m.next ⟨p.blk, p.base + off, cap⟩) m' w ∧ Ext m e (e.add m.next ⟨p.blk, p.base + off, cap⟩) := by
  have hx := Ext.add m e ⟨p.blk, p.base + off, cap⟩
  have hle := h.le hx
  have old : ∀ i q, i ≠ m.next → (e.add m.next ⟨p.blk, p.base + off, cap⟩).pl i = some q → e.pl i = some q := fun i q hi hq => by simpa [Env.add, hi] using hq
  have new : ∀ q, (e.add m.next ⟨p.blk, p.base + off, cap⟩).pl m.next = some q → q = ⟨p.blk, p.base + off, cap⟩ := fun q hq => by simpa [Env.add, eq_comm] using hq
  have sg : ∀ j q b, m.blks.get j = some b → e.pl j = some q → p.blk = q.blk → SameGrp ⟨p.blk, p.base + off, cap⟩ q o b := by
    intro j q b hj hq hpq
    by_cases e1 : j = id
    · subst e1
      rw [h0] at hj; cases hj
      rw [hp] at hq; cases hq
      exact ⟨g, hgo, hg0, by simp only [hgb]; omega⟩
    · obtain ⟨g', g1, g2, g3⟩ := h.sep id j p q b0 b (Ne.symm e1) h0 hj hp hq hpq
      rw [hg0] at g1; cases g1
      exact ⟨g, hgo, g2, by simp only [hgb]; omega⟩
  refine ⟨⟨?_, ?_, ?_, ?_, ?_, h.size, fun g' hg' => ?_⟩, hx⟩
  · intro i b q hi hq
    rw [hb] at hi
    by_cases e1 : i = m.next
    · subst e1; simp at hi; subst hi; obtain rfl := new q hq; exact hr
    · simp [e1] at hi
      exact (h.real i b q hi (old i q e1 hq)).mono hle rfl rfl
  · intro i j pi pj b b' hij hi hj hpi hpj hpq
    rw [hb] at hi hj
    by_cases e1 : i = m.next
    · by_cases e2 : j = m.next
      · exact (hij (e1.trans e2.symm)).elim
      · subst e1
        simp at hi; subst hi
        simp [e2] at hj
        obtain rfl := new pi hpi
        exact sg j pj b' hj (old j pj e2 hpj) hpq
    · simp [e1] at hi
      by_cases e2 : j = m.next
      · subst e2
        simp at hj; subst hj
        obtain rfl := new pj hpj
        exact (sg i pi b hi (old i pi e1 hpi) hpq.symm).symm
      · simp [e2] at hj
        exact h.sep i j pi pj b b' hij hi hj (old i pi e1 hpi) (old j pj e2 hpj) hpq
  · intro i b g' hi hbg
    rw [hb] at hi
    by_cases e1 : i = m.next
    · subst e1; simp at hi; subst hi; rw [hgo] at hbg; cases hbg; exact hg
    · simp [e1] at hi
      obtain ⟨l, hl, hil⟩ := h.grp i b g' hi hbg
      obtain ⟨l', hl', hs⟩ := hgr g' l hl
      exact ⟨l', hl', hs i hil⟩
  · intro i hi
    have hne : i ≠ m.next := by omega
    rw [hb]
    simp only [Env.add, hne, if_false]
    exact h.fresh i (by omega)
  · intro i b q hi hq
    rw [hb] at hi
    by_cases e1 : i = m.next
    · subst e1
      obtain rfl := new q hq
      exact h.frame id b0 p h0 hp
    · simp [e1] at hi
      exact h.frame i b q hi (old i q e1 hq)
  · obtain ⟨c, hc⟩ := h.glob g' hg'
    exact ⟨c, hle.2 _ _ hc⟩

/-- **A block is turned**, and siblings may go. -/
theorem Rel.upd {T : Tab} {F : Nat → Prop} {e : Env} {m m' : AMem} {w w' : World} (h : Rel T F e m w) {id : Nat} {b0 b1 : ABlk} {p : Plc}
    (h0 : m.blks.get id = some b0) (hp : e.pl id = some p) (hn : m'.next = m.next) (hgr : m'.grps = m.grps) (h1 : m'.blks.get id = some b1)
    (hget : ∀ j, j ≠ id → m'.blks.get j = m.blks.get j ∨ m'.blks.get j = none) (hg : b1.grp = b0.grp) (hgb : b1.gb = b0.gb)
    (hw : ∀ b, b ≠ p.blk → w'.heap[b]? = w.heap[b]?) (hs : w'.heap.size = w.heap.size) (hr : Real T e w'.heap p b1)
    (hsib : ∀ j q b, j ≠ id → m'.blks.get j = some b → e.pl j = some q → q.blk = p.blk → Real T e w'.heap q b)
    (ho : w'.os = w.os) (hou : w'.output = w.output) (ht : w'.tape = w.tape) : Rel T F e m' w' ∧ Keep F w w' := by
  have back : ∀ j b, j ≠ id → m'.blks.get j = some b → m.blks.get j = some b := fun j b hj hb => by
    rcases hget j hj with h' | h' <;> rw [h'] at hb
    · exact hb
    · cases hb
  refine ⟨⟨?_, ?_, ?_, ?_, ?_, ?_, h.glob⟩, ⟨fun b hF => hw b fun hb => h.frame id b0 p h0 hp (hb ▸ hF), by omega, ho, hou, ht⟩⟩
  · intro i b q hi hq
    by_cases e1 : i = id
    · subst e1; rw [h1] at hi; cases hi; rw [hp] at hq; cases hq; exact hr
    · by_cases e2 : q.blk = p.blk
      · exact hsib i q b e1 hi hq e2
      · exact (h.real i b q (back i b e1 hi) hq).mono (Env.le_refl e) rfl (hw _ e2)
  · intro i j pi pj b b' hij hi hj hpi hpj hpq
    by_cases e1 : i = id
    · subst e1
      rw [h1] at hi; cases hi
      have := h.sep i j pi pj b0 b' hij h0 (back j b' (Ne.symm hij) hj) hpi hpj hpq
      unfold SameGrp at *
      rw [hg, hgb]; exact this
    · by_cases e2 : j = id
      · subst e2
        rw [h1] at hj; cases hj
        have := h.sep i j pi pj b b0 hij (back i b e1 hi) h0 hpi hpj hpq
        unfold SameGrp at *
        rw [hg, hgb]; exact this
      · exact h.sep i j pi pj b b' hij (back i b e1 hi) (back j b' e2 hj) hpi hpj hpq
  · intro i b g hi hbg
    rw [hgr]
    by_cases e1 : i = id
    · subst e1; rw [h1] at hi; cases hi; exact h.grp i b0 g h0 (by rw [← hg]; exact hbg)
    · exact h.grp i b g (back i b e1 hi) hbg
  · intro i hi
    rw [hn] at hi
    refine ⟨(h.fresh i hi).1, ?_⟩
    have hne : i ≠ id := fun e1 => by subst e1; rw [(h.fresh i hi).2] at h0; cases h0
    rcases hget i hne with h' | h'
    · rw [h']; exact (h.fresh i hi).2
    · exact h'
  · intro i b q hi hq
    by_cases e1 : i = id
    · subst e1; exact h.frame i b0 q h0 hq
    · exact h.frame i b q (back i b e1 hi) hq
  · intro b hF; rw [hs]; exact h.size b hF

/-! ### Striking -/
theorem killK_some (id q : Nat) : ∀ (l : List Nat) (b : Tr ABlk) (k : Tr ABlk → Option β) (r : β), killK id q l b k = some r →
    ∃ b', k b' = some r ∧ (∀ j, b'.get j = b.get j ∨ (b'.get j = none ∧ j ≠ id)) ∧
      ∀ j, j ∈ l → j ≠ id → ∀ x, b'.get j = some x → ∃ e g gb fz st ex n cs, x = .row e g gb fz st ex n cs ∧ gb + n < q := by
  intro l
  induction l with
  | nil => intro b k r h; exact ⟨b, h, fun _ => .inl rfl, fun _ hj => by cases hj⟩
  | cons j l ih =>
    intro b k r h
    unfold killK at h
    cases hj : Nat.beq j id with
    | true =>
      rw [hj] at h
      obtain ⟨b', hk, h1, h2⟩ := ih _ _ _ h
      refine ⟨b', hk, h1, fun i hi hne => ?_⟩
      rcases List.mem_cons.1 hi with rfl | hi
      · exact (hne (beq_nat.1 hj)).elim
      · exact h2 i hi hne
    | false =>
      rw [hj] at h
      simp only [cond_false] at h
      split at h
      · rename_i hnone
        obtain ⟨b', hk, h1, h2⟩ := ih _ _ _ h
        refine ⟨b', hk, h1, fun i hi hne x hx => ?_⟩
        rcases List.mem_cons.1 hi with rfl | hi
        · rcases h1 i with h' | ⟨h', _⟩ <;> rw [h'] at hx
          · rw [hnone] at hx; cases hx
          · cases hx
        · exact h2 i hi hne x hx
      · rename_i e g gb fz st ex n cs hsome
        cases hlt : Nat.blt (gb + n) q with
        | true =>
          rw [hlt] at h
          obtain ⟨b', hk, h1, h2⟩ := ih _ _ _ h
          refine ⟨b', hk, h1, fun i hi hne x hx => ?_⟩
          rcases List.mem_cons.1 hi with rfl | hi
          · rcases h1 i with h' | ⟨h', _⟩ <;> rw [h'] at hx
            · rw [hsome] at hx; cases hx; exact ⟨_, _, _, _, _, _, _, _, rfl, blt_nat.1 hlt⟩
            · cases hx
          · exact h2 i hi hne x hx
        | false =>
          rw [hlt] at h
          obtain ⟨b1, hb1, hg1⟩ := Tr.setK_some _ _ _ _ _ _ h
          obtain ⟨b', hk, h1, h2⟩ := ih _ _ _ hb1
          have hjne : j ≠ id := beq_nat_false.1 hj
          refine ⟨b', hk, fun i => ?_, fun i hi hne x hx => ?_⟩
          · rcases h1 i with h' | h'
            · rw [h', hg1]
              by_cases e1 : i = j
              · subst e1; simp; exact .inr hjne
              · simp [e1]
            · exact .inr h'
          · rcases List.mem_cons.1 hi with rfl | hi
            · rcases h1 i with h' | ⟨h', _⟩ <;> rw [h'] at hx
              · rw [hg1] at hx; simp at hx
              · cases hx
            · exact h2 i hi hne x hx
      · cases h

/-- what striking leaves: of the others that may lie in the same block each ends ahead of q - 1 -/
theorem strikeK_some {T : Tab} {F : Nat → Prop} {e : Env} {m : AMem} {w : World} (hR : Rel T F e m w) {id : Nat} {b0 : ABlk} (h0 : m.blks.get id = some b0) (q : Nat)
    (k : AMem → Option β) (r : β) (h : strikeK m id b0.grp q k = some r) :
    ∃ m', k m' = some r ∧ m'.next = m.next ∧ m'.grps = m.grps ∧ m'.blks.get id = some b0 ∧ (∀ j, j ≠ id → m'.blks.get j = m.blks.get j ∨ m'.blks.get j = none) ∧
      ∀ j p p' b, j ≠ id → m'.blks.get j = some b → e.pl id = some p → e.pl j = some p' → p'.blk = p.blk →
        SameGrp p p' b0 b ∧ ∃ el g gb fz st ex n cs, b = .row el g gb fz st ex n cs ∧ gb + n < q := by
  unfold strikeK at h
  cases hg : b0.grp with
  | none =>
    rw [hg] at h
    refine ⟨m, h, rfl, rfl, h0, fun j _ => .inl rfl, fun j p p' b hj hb hp hp' hbl => ?_⟩
    obtain ⟨g, h1, _⟩ := hR.sep id j p p' b0 b (Ne.symm hj) h0 hb hp hp' hbl.symm
    rw [hg] at h1; cases h1
  | some g =>
    rw [hg] at h
    obtain ⟨bl, nx, gs⟩ := m
    dsimp only at h
    cases hl : gs.get g with
    | none => rw [hl] at h; cases h
    | some l =>
      rw [hl] at h
      obtain ⟨b', hk, h1, h2⟩ := killK_some _ _ _ _ _ _ h
      refine ⟨_, hk, rfl, rfl, ?_, fun j hj => (h1 j).imp (fun h => h) And.left, fun j p p' b hj hb hp hp' hbl => ?_⟩
      · rcases h1 id with h' | ⟨_, h'⟩
        · rw [← h0]; exact h'
        · exact (h' rfl).elim
      · have hb0 : bl.get j = some b := by
          rcases h1 j with h' | ⟨h', _⟩
          · rw [← h']; exact hb
          · rw [h'] at hb; cases hb
        have hs := hR.sep id j p p' b0 b (Ne.symm hj) h0 hb0 hp hp' hbl.symm
        refine ⟨hs, ?_⟩
        obtain ⟨g', hg1, hg2, _⟩ := hs
        rw [hg] at hg1; cases hg1
        obtain ⟨l', hl', hmem⟩ := hR.grp j b g hb0 hg2
        have : l' = l := by have := hl'.symm.trans hl; simpa using this
        subst this
        exact h2 j hmem hj b hb

end Go.Proofs.YtplgnjpeikamhaaGreatDoor.Xec

namespace Go.Proofs.YtplgnjpeikamhaaGreatDoor.Xec
variable {α β : Type}

/-- what the executor's table says is so -/
structure TabOk (P : Program) (T : Tab) : Prop where
  fn : ∀ f x, T.fn f = some x → P.funcs[f]? = some x
  ti : ∀ t i, T.ti t = some i → P.info? t = some i
  ps : ∀ t, T.ps t = true → P.eqGuardType P.depth t = false ∧ P.stoodInHeld t = false
  lies : ∀ e n off u, T.lies e n off u = true → liesAt P P.depth e (n / P.cellsOf e) off u 1 = true
  mixed : P.follows .mixedOrders = true
  call : ∀ f x c, T.fn f = some x → x.body = some c → ∀ args w, (callFunc f args).run P w = .ok (.enter f args) w
  ext1 : ∀ f, T.ext f = some 1 → ∀ args w, (callFunc f args).run P w = (do let v ← Extern.BytealgIndexByte.indexByte args; pure (Next.value v) : Sem Next).run P w
  ext2 : ∀ f, T.ext f = some 2 → ∀ x w, (callFunc f #[x]).run P w = .ok (.value x) w
  kn : ∀ f, T.kn f = true → ∀ w, Calls P f #[] w fun en w' => en = .returned (.bool true) ∧ Keep (fun b => b < w.heap.size) w w'

section
variable {P : Program} {T : Tab} (hT : TabOk P T)
include hT

theorem und_ok {t : TypeId} {d : TypeDesc} (h : T.und t = some d) : P.underlying t = some d := by
  unfold Tab.und at h
  cases hi : T.ti t with
  | none => rw [hi] at h; cases h
  | some i =>
    rw [hi] at h
    have h1 := hT.ti _ _ hi
    unfold Program.underlying
    rw [h1]
    obtain ⟨desc, a, b, c, d', e, f, g, hh, j⟩ := i
    cases desc with
    | named nm u =>
      dsimp only at h ⊢
      cases hj : T.ti u with
      | none => rw [hj] at h; cases h
      | some j => rw [hj] at h; rw [hT.ti _ _ hj]; simpa using h
    | _ => simpa using h

theorem run_und {t : TypeId} {d : TypeDesc} (h : T.und t = some d) (w : World) : (underlying t).run P w = .ok d w := by
  simp [underlying, und_ok hT h]

theorem run_info {t : TypeId} {i : TypeInfo} (h : T.ti t = some i) (w : World) : (typeInfo t).run P w = .ok i w := by
  simp [typeInfo, hT.ti _ _ h]

theorem run_size {t : TypeId} {s : Nat} (h : T.size t = some s) (w : World) : (sizeOf t).run P w = .ok s w := by
  unfold Tab.size at h
  cases hi : T.ti t with
  | none => rw [hi] at h; cases h
  | some i => rw [hi] at h; cases h; simp [sizeOf, run_info hT hi]

theorem cellsOf_ok {t : TypeId} {s : Nat} (h : T.size t = some s) : P.cellsOf t = s := by
  unfold Tab.size at h
  cases hi : T.ti t with
  | none => rw [hi] at h; cases h
  | some i => rw [hi] at h; cases h; simp [Program.cellsOf, hT.ti _ _ hi]

theorem run_agg {t : TypeId} {b : Bool} (h : T.agg t = some b) (w : World) : (isAgg t).run P w = .ok b w := by
  unfold Tab.agg at h
  cases hu : T.und t with
  | none => rw [hu] at h; cases h
  | some d =>
    rw [hu] at h
    unfold isAgg
    rw [Sem.run_bind, run_und hT hu]
    cases d <;> simp at h <;> subst h <;> rfl
end

/-! ### Constants -/
theorem toBytes_data (s : ByteArray) : toBytes (s.data.toList.map UInt8.toNat) = s := by
  unfold toBytes
  rw [List.map_map]
  have : (Nat.toUInt8 ∘ UInt8.toNat) = (id : UInt8 → UInt8) := by funext x; simp
  rw [this]; simp

theorem absVs_rel {f : Value → Option AVal} (hf : ∀ v a, f v = some a → ∀ e, VRel e a v) : ∀ (vs : List Value) (l : List AVal), absVs f vs = some l → ∀ e, VRels e l vs := by
  intro vs
  induction vs with
  | nil => intro l h e; simp [absVs] at h; subst h; exact VRels.mk_nil e
  | cons v r ih =>
    intro l h e
    unfold absVs at h
    split at h
    · rename_i a l' ha hl
      cases h
      exact VRels.mk_cons (hf _ _ ha e) (ih _ hl e)
    · cases h

theorem absV_rel : ∀ (n : Nat) (v : Value) (a : AVal), absV n v = some a → ∀ e, VRel e a v := by
  intro n
  induction n with
  | zero => intro v a h; simp [absV] at h
  | succ n ih =>
    intro v a h e
    unfold absV at h
    split at h
    all_goals (first | (cases h; simp only [VRel]; done) | skip)
    · cases h
      simp only [VRel]
      exact ⟨by rw [toBytes_data], by intro b hb; obtain ⟨x, _, rfl⟩ := List.mem_map.1 hb; exact x.toNat_lt⟩
    · cases h
      simp only [VRel]
      exact ⟨fun l h => (by cases h), [], [], VRels.mk_nil e, VRels.mk_nil e, rfl⟩
    · split at h
      · rename_i b hb; cases h; simp only [VRel]; exact ⟨_, ih _ _ hb e, rfl⟩
      · cases h
    · split at h
      · rename_i b hb; cases h; simp only [VRel]; exact ⟨_, absVs_rel ih _ _ hb e, rfl⟩
      · cases h
    · split at h
      · rename_i b hb; cases h; simp only [VRel]; exact ⟨_, absVs_rel ih _ _ hb e, rfl⟩
      · cases h
    · cases h

theorem absV_live {n : Nat} {v : Value} {a : AVal} (h : absV n v = some a) : a.live = true := by
  cases n with
  | zero => simp [absV] at h
  | succ n =>
    unfold absV at h
    split at h <;> (try split at h) <;> (cases h; try rfl)

theorem VRel.cells' {e : Env} {a : AVal} {v : Value} (h : VRel e a v) (hj : a.live = true) : VRels e a.cells v.cells.toList :=
  h.cells (by cases a <;> first | rfl | simp [AVal.live] at hj)

section
variable {P : Program} {T : Tab} (hT : TabOk P T)
include hT
theorem run_zero {t : TypeId} {a : AVal} (h : T.zero t = some a) (w : World) : ∃ z, (zeroValue t).run P w = .ok z w ∧ (∀ e, VRel e a z) ∧ a.live = true := by
  unfold Tab.zero at h
  cases hi : T.ti t with
  | none => rw [hi] at h; cases h
  | some i =>
    rw [hi] at h
    dsimp only at h
    cases hz : i.zero with
    | none => rw [hz] at h; cases h
    | some z =>
      rw [hz] at h
      dsimp only at h
      exact ⟨z, by simp [zeroValue, run_info hT hi, hz], absV_rel _ _ _ h, absV_live h⟩
end

/-! ### Operands -/
theorem evalO_ok {T : Tab} {F : Nat → Prop} {e : Env} {m : AMem} {w : World} (hR : Rel T F e m w) {tm : Tr AVal} {n : Nat} {fr : Frame} (ht : TRel e tm n fr.tmps) (x : Operand) (a : AVal)
    (h : evalO T.ng tm x = some a) : VRel e a (fr.eval x) := by
  cases x with
  | tmp t =>
    have h1 := ht.2 t
    simp only [evalO] at h
    show VRel e a (fr.tmps.getD t undef)
    cases hg : tm.get t with
    | none => rw [hg] at h h1; cases h; exact h1
    | some v => rw [hg] at h h1; cases h; exact h1
  | const v => exact absV_rel _ _ _ h e
  | global g =>
    simp only [evalO] at h
    cases hb : Nat.blt g T.ng with
    | false => rw [hb] at h; cases h
    | true =>
      rw [hb] at h; cases h
      obtain ⟨c, hc⟩ := hR.glob g (blt_nat.1 hb)
      simp only [VRel]
      exact ⟨_, hc, rfl⟩
  | func f =>
    simp only [evalO] at h; cases h
    simp only [VRel]
    exact ⟨fun l h => (by cases h), [], [], VRels.mk_nil e, VRels.mk_nil e, rfl⟩

theorem evs_ok {e : Env} {ev : Operand → Option AVal} {ρ : Operand → Value} (hev : ∀ x a, ev x = some a → VRel e a (ρ x)) : ∀ (l : List Operand) (as : List AVal), evs ev l = some as → VRels e as (l.map ρ) := by
  intro l
  induction l with
  | nil => intro as h; simp [evs] at h; subst h; exact VRels.mk_nil e
  | cons x r ih =>
    intro as h
    unfold evs at h
    split at h
    · rename_i v l' hv hl
      cases h
      exact VRels.mk_cons (hev _ _ hv) (ih _ hl)
    · cases h

/-! ### Reading -/
theorem readCells_spec (cs : Tr AVal) : ∀ (n off : Nat) (l : List AVal), readCells cs off n = some l → l.length = n ∧ ∀ i, i < n → cs.get (off + i) = l[i]? := by
  intro n
  induction n with
  | zero => intro off l h; simp [readCells] at h; subst h; exact ⟨rfl, fun i hi => by omega⟩
  | succ n ih =>
    intro off l h
    unfold readCells at h
    split at h
    · rename_i v hv
      split at h
      · rename_i l' hl
        cases h
        obtain ⟨h1, h2⟩ := ih _ _ hl
        refine ⟨by simp [h1], fun i hi => ?_⟩
        cases i with
        | zero => simpa using hv
        | succ i => have := h2 i (by omega); rw [show off + (i + 1) = off + 1 + i from by omega, this]; simp
      · cases h
    · cases h

/-- the cells that are read -/
theorem cells_ok {T : Tab} {F : Nat → Prop} {e : Env} {m : AMem} {w : World} (hR : Rel T F e m w) {id off n : Nat} {l : List AVal} {p : Plc} (hp : e.pl id = some p) (h : m.cells id off n = some l) :
    ∃ vs, VRels e l vs ∧ vs.length = n ∧ ∃ el g gb fz st ex k cs c fr, m.blks.get id = some (.row el g gb fz st ex k cs) ∧ off + n ≤ k ∧ w.heap[p.blk]? = some (.cells c el fr) ∧ p.base + k ≤ c.size ∧
      ∀ i, i < n → c[p.base + (off + i)]? = vs[i]? := by
  obtain ⟨bl, nx, gs⟩ := m
  unfold AMem.cells AMem.get at h
  dsimp only at h
  split at h
  · rename_i el g gb fz st ex k cs hb
    cases hle : Nat.ble (off + n) k with
    | false => rw [hle] at h; cases h
    | true =>
      rw [hle] at h
      obtain ⟨h1, h2⟩ := readCells_spec _ _ _ _ h
      obtain ⟨c, fr, hc, hcell, _, hk, _, _⟩ := hR.real id _ p hb hp
      have hle' := ble_nat.1 hle
      have get : ∀ i, i < n → ∃ v, c[p.base + (off + i)]? = some v ∧ ∃ a, l[i]? = some a ∧ VRel e a v := fun i hi => by
        obtain ⟨a, v, ha, hv, hr⟩ := hcell (off + i) (by omega)
        exact ⟨v, hv, a, by rw [← h2 i hi]; exact ha, hr⟩
      refine ⟨(List.range n).map fun i => (c[p.base + (off + i)]?).getD undef, VRels.of_get (by simp [h1]) fun i a v ha hv => ?_, by simp, el, g, gb, fz, st, ex, k, cs, c, fr, hb, hle', hc, hk, fun i hi => ?_⟩
      · have hi : i < n := by rw [← h1]; exact (List.getElem?_eq_some_iff.1 ha).1
        obtain ⟨v', hv', a', ha', hr⟩ := get i hi
        rw [ha] at ha'; cases ha'
        simp [hi, hv'] at hv
        rw [← hv]; exact hr
      · obtain ⟨v', hv', _⟩ := get i hi
        simp [hi, hv']
  · cases h

theorem cell?_of {w : World} {b o : Nat} {c : Array Value} {el : TypeId} {fr : Nat × Nat} (h : w.heap[b]? = some (.cells c el fr)) : w.cell? ⟨b, o, none⟩ = c[o]? := by
  simp [World.cell?, h]

theorem add_none (b o n : Nat) : (⟨b, o, none⟩ : Addr).add n = ⟨b, o + n, none⟩ := by
  unfold Addr.add; split <;> simp_all

theorem run_load_cell {P : Program} {w : World} {a : Addr} {v : Value} (h : w.cell? a = some v) (md : Mode) : (load a md).run P w = .ok v w := by
  rw [run_load, h]

theorem run_cells {P : Program} {w : World} {b o n : Nat} {vs : List Value} (hl : vs.length = n) (h : ∀ i, i < n → w.cell? ⟨b, o + i, none⟩ = vs[i]?) :
    (loadCells ⟨b, o, none⟩ n).run P w = .ok vs.toArray w := by
  have key : ∀ (k i : Nat) (acc : Array Value), i + k = n → (loadCellsFrom ⟨b, o, none⟩ i k acc).run P w = .ok (acc ++ (vs.drop i).toArray) w := by
    intro k
    induction k with
    | zero =>
      intro i acc hi
      have : vs.drop i = [] := List.drop_eq_nil_of_le (by omega)
      simp [loadCellsFrom, this]
    | succ k ih =>
      intro i acc hi
      have hlt : i < vs.length := by omega
      have h1 := h i (by omega)
      rw [List.getElem?_eq_getElem hlt] at h1
      unfold loadCellsFrom
      rw [Sem.run_bind, add_none, run_load_cell h1, Result.andThen_ok, ih _ _ (by omega), List.drop_eq_getElem_cons hlt]
      simp
  unfold loadCells
  rw [key n 0 #[] (by omega)]
  simp

section
variable {P : Program} {T : Tab} (hT : TabOk P T) {F : Nat → Prop} {e : Env} {m : AMem} {w : World} (hR : Rel T F e m w)
include hT hR
theorem loadVar_ok {t : TypeId} {id off : Nat} {a : AVal} {p : Plc} (hp : e.pl id = some p) (h : loadVar T m t id off = some a) :
    ∃ v, (Go.loadVar t ⟨p.blk, p.base + off, none⟩).run P w = .ok v w ∧ VRel e a v := by
  unfold loadVar at h
  split at h
  · rename_i n ha hs
    split at h
    · rename_i l hl
      cases h
      obtain ⟨vs, hv, hlen, el, g, gb, fz, st, ex, k, cs, c, fr, hb, hle, hc, hk, hg⟩ := cells_ok hR hp hl
      have h1 : (loadCells ⟨p.blk, p.base + off, none⟩ n).run P w = .ok vs.toArray w := run_cells hlen fun i hi => by
        rw [cell?_of hc, show p.base + off + i = p.base + (off + i) from by omega]; exact hg i hi
      refine ⟨.agg vs.toArray, ?_, by simp only [VRel]; exact ⟨vs, hv, rfl⟩⟩
      unfold Go.loadVar
      simp [run_agg hT ha, run_size hT hs, h1]
    · cases h
  · rename_i n ha
    split at h
    · rename_i v hl
      cases h
      obtain ⟨vs, hv, hlen, el, g, gb, fz, st, ex, k, cs, c, fr, hb, hle, hc, hk, hg⟩ := cells_ok hR hp hl
      obtain ⟨u, r, rfl, hu, hr⟩ := hv.cons
      have h0 := hg 0 (by omega)
      refine ⟨u, ?_, hu⟩
      unfold Go.loadVar
      simp only [Sem.run_bind, run_agg hT ha, Result.andThen_ok]
      have : w.cell? ⟨p.blk, p.base + off, none⟩ = some u := by rw [cell?_of hc]; simpa using h0
      simp [this]
    · cases h
  · cases h
end
end Go.Proofs.YtplgnjpeikamhaaGreatDoor.Xec

namespace Go.Proofs.YtplgnjpeikamhaaGreatDoor.Xec
variable {α β : Type}

/-! ### Writing a run of cells -/
theorem heap_setCell {w : World} {b o : Nat} {c : Array Value} {el : TypeId} {fr : Nat × Nat} (v : Value) (h : w.heap[b]? = some (.cells c el fr)) (x : Nat) :
    (w.setCell ⟨b, o, none⟩ v).heap[x]? = if x = b then some (.cells (c.setIfInBounds o v) el fr) else w.heap[x]? := by
  have hb : b < w.heap.size := by
    rcases Nat.lt_or_ge b w.heap.size with hlt | hge
    · exact hlt
    · simp [Array.getElem?_eq_none hge] at h
  unfold World.setCell
  simp only [Array.getElem?_modify]
  by_cases e : x = b
  · subst e; simp [h]
  · simp [e, Ne.symm e]

/-- the world but for one row of cells -/
structure RowSet (w w' : World) (b : Nat) (c' : Array Value) (el : TypeId) (fr : Nat × Nat) : Prop where
  row : w'.heap[b]? = some (.cells c' el fr)
  other : ∀ x, x ≠ b → w'.heap[x]? = w.heap[x]?
  size : w'.heap.size = w.heap.size
  os : w'.os = w.os
  output : w'.output = w.output
  tape : w'.tape = w.tape

theorem run_storeRow {P : Program} {b o : Nat} {el : TypeId} {fr : Nat × Nat} : ∀ (vs : List Value) (i : Nat) (c : Array Value) (w : World),
    w.heap[b]? = some (.cells c el fr) → (∀ v ∈ vs, v.oneCell' = true) → o + i + vs.length ≤ c.size →
    (∀ x, o + i ≤ x → x < o + i + vs.length → (decide (fr.1 ≤ x) && decide (x < fr.2)) = false) →
    ∃ w' c', (storeCells ⟨b, o, none⟩ vs i).run P w = .ok () w' ∧ RowSet w w' b c' el fr ∧ c'.size = c.size ∧
      ∀ x, c'[x]? = if o + i ≤ x ∧ x < o + i + vs.length then vs[x - (o + i)]? else c[x]? := by
  intro vs
  induction vs with
  | nil =>
    intro i c w h _ _ _
    exact ⟨w, c, rfl, ⟨h, fun _ _ => rfl, rfl, rfl, rfl, rfl⟩, rfl, fun x => by rw [if_neg]; simp only [List.length_nil]; omega⟩
  | cons v r ih =>
    intro i c w h h1 h2 h3
    simp only [List.length_cons] at h2 h3
    have hlt : o + i < c.size := by omega
    have hcell : w.cell? ⟨b, o + i, none⟩ = some c[o + i] := by rw [cell?_of h, Array.getElem?_eq_getElem hlt]
    have hfz : w.frozen? ⟨b, o + i, none⟩ = false := by
      unfold World.frozen?
      rw [h]
      exact h3 (o + i) (by omega) (by omega)
    have hrow : (w.setCell ⟨b, o + i, none⟩ v).heap[b]? = some (.cells (c.setIfInBounds (o + i) v) el fr) := by rw [heap_setCell v h]; simp
    obtain ⟨w', c', hr, hs, hsz, hx⟩ := ih (i + 1) (c.setIfInBounds (o + i) v) (w.setCell ⟨b, o + i, none⟩ v) hrow (fun u hu => h1 u (List.mem_cons_of_mem _ hu)) (by simp; omega)
      (fun x hx1 hx2 => h3 x (by omega) (by omega))
    refine ⟨w', c', ?_, ⟨hs.row, fun x hne => ?_, ?_, hs.os, hs.output, hs.tape⟩, by rw [hsz]; simp, fun x => ?_⟩
    · unfold storeCells
      rw [Sem.run_bind, add_none, run_store P w _ v _ (h1 v (List.mem_cons_self ..)), hcell]
      simp only [hfz, Bool.false_eq_true, if_false, Result.andThen_ok]
      exact hr
    · rw [hs.other x hne, heap_setCell v h]; simp [hne]
    · rw [hs.size]; simp [World.setCell]
    · rw [hx]
      by_cases e1 : x = o + i
      · subst e1
        rw [if_neg (by omega), if_pos (by simp only [List.length_cons]; omega)]
        simp [hlt]
      · by_cases e2 : o + i ≤ x ∧ x < o + i + (v :: r).length
        · rw [if_pos e2, if_pos (by simp only [List.length_cons] at e2; omega)]
          have : x - (o + i) = (x - (o + (i + 1))) + 1 := by omega
          rw [this]; simp
        · rw [if_neg e2, if_neg (by simp only [List.length_cons] at e2; omega)]
          rw [Array.getElem?_setIfInBounds_ne (by omega)]

/-! ### Filling -/
theorem fillK_some : ∀ (vs : List AVal) (i : Nat) (t : Tr AVal) (k : Tr AVal → Nat → Option β) (r : β), fillK vs i t k = some r →
    ∃ t', k t' (i + vs.length) = some r ∧ ∀ j, t'.get j = if i ≤ j ∧ j < i + vs.length then vs[j - i]? else t.get j := by
  intro vs
  induction vs with
  | nil => intro i t k r h; exact ⟨t, h, fun j => by rw [if_neg]; simp only [List.length_nil]; omega⟩
  | cons v l ih =>
    intro i t k r h
    unfold fillK at h
    obtain ⟨t1, h1, hg1⟩ := Tr.setK_some _ _ _ _ _ _ h
    rw [natK_eq] at h1
    obtain ⟨t', hk, hg⟩ := ih _ _ _ _ h1
    refine ⟨t', by rw [show i + (v :: l).length = i + 1 + l.length from by simp; omega]; exact hk, fun j => ?_⟩
    rw [hg, hg1]
    simp only [List.length_cons]
    by_cases e1 : j = i
    · subst e1
      rw [if_neg (by omega), if_pos rfl, if_pos (by omega)]
      simp
    · by_cases e2 : i ≤ j ∧ j < i + (l.length + 1)
      · rw [if_pos e2, if_pos (by omega)]
        have : j - i = (j - (i + 1)) + 1 := by omega
        rw [this]; simp
      · rw [if_neg e2, if_neg (by omega), if_neg e1]

theorem newBlkK_some {m : AMem} {o : ABlk} {k : Nat → AMem → Option β} {r : β} (h : newBlkK m o k = some r) :
    ∃ m', k m.next m' = some r ∧ m'.next = m.next + 1 ∧ m'.grps = m.grps ∧ ∀ i, m'.blks.get i = if i = m.next then some o else m.blks.get i := by
  obtain ⟨b, n, g⟩ := m
  unfold newBlkK at h
  dsimp only at h
  obtain ⟨b', hk, hg⟩ := Tr.setK_some _ _ _ _ _ _ h
  rw [natK_eq] at hk
  exact ⟨_, hk, rfl, rfl, hg⟩

theorem setBlkK_some {m : AMem} {id : Nat} {o : ABlk} {k : AMem → Option β} {r : β} (h : setBlkK m id o k = some r) :
    ∃ m', k m' = some r ∧ m'.next = m.next ∧ m'.grps = m.grps ∧ ∀ i, m'.blks.get i = if i = id then some o else m.blks.get i := by
  obtain ⟨b, n, g⟩ := m
  unfold setBlkK at h
  dsimp only at h
  obtain ⟨b', hk, hg⟩ := Tr.setK_some _ _ _ _ _ _ h
  exact ⟨_, hk, rfl, rfl, hg⟩

section
variable {P : Program} {T : Tab} {F : Nat → Prop} {e : Env} {m : AMem} {w : World}

/-- **A new row of cells**, more behind them perhaps. -/
theorem newRow_real (elem : TypeId) (vs : List AVal) (Vs tail : List Value) (hv : VRels e vs Vs) (t : Tr AVal) (ht : ∀ j, t.get j = if 0 ≤ j ∧ j < 0 + vs.length then vs[j - 0]? else (Tr.lf : Tr AVal).get j)
    (st ex : Bool) (fr : Nat × Nat) (cap : Nat) (hfz : fzOk st fr 0 (Vs.length + tail.length)) (hcap : ∀ s, T.size elem = some s → cap * s ≤ Vs.length + tail.length) (hex : ex = true → tail = [])
    (heap : Array Obj) (b : Nat) (hb : heap[b]? = some (.cells (Vs ++ tail).toArray elem fr)) :
    Real T e heap ⟨b, 0, cap⟩ (.row elem none 0 0 st ex vs.length t) := by
  have hl := hv.length
  refine ⟨_, fr, hb, fun i hi => ?_, by simpa using hfz, by simp; omega, fun s hs => by simpa using hcap s hs, fun h => ⟨rfl, by rw [hex h]; simp [hl]⟩⟩
  have h1 : vs[i]? = some vs[i] := List.getElem?_eq_getElem hi
  obtain ⟨v, hv1, hr⟩ := hv.get h1
  refine ⟨vs[i], v, by rw [ht, if_pos (by omega)]; simpa using h1, ?_, hr⟩
  have : i < Vs.length := by omega
  simp [this] at hv1 ⊢
  rw [List.getElem?_append_left (by omega)]; simpa [this] using hv1

theorem newRowK_ok (hR : Rel T F e m w) {elem : TypeId} {cells : List AVal} {vs : List Value} (hv : VRels e cells vs) {k : Nat → AMem → Option β} {r : β} (h : newRowK m elem cells k = some r) :
    ∃ m', k m.next m' = some r ∧ m'.next = m.next + 1 ∧ Rel T F (e.add m.next ⟨w.heap.size, 0, 0⟩) m' { w with heap := w.heap.push (.cells vs.toArray elem) } ∧
      Ext m e (e.add m.next ⟨w.heap.size, 0, 0⟩) ∧ Keep F w { w with heap := w.heap.push (.cells vs.toArray elem) } := by
  unfold newRowK at h
  obtain ⟨t, h1, ht⟩ := fillK_some _ _ _ _ _ h
  obtain ⟨m', h2, hn, hg, hb⟩ := newBlkK_some h1
  have hx := Ext.add m e ⟨w.heap.size, 0, 0⟩
  have hle := hR.le hx
  obtain ⟨a1, a2, a3⟩ := hR.alloc (.row elem none 0 0 false true (0 + cells.length) t) (.cells vs.toArray elem) 0 rfl hn hg hb (by
    have := newRow_real (T := T) (e := e.add m.next ⟨w.heap.size, 0, 0⟩) elem cells vs [] (hv.mono hle) t ht false true (0, 0) 0 (.inl rfl) (fun s _ => by omega) (fun _ => rfl) (w.heap.push (.cells vs.toArray elem)) w.heap.size (by simp)
    simpa using this)
  exact ⟨m', h2, hn, a1, a2, a3⟩

theorem allSingle_mem {l : List AVal} : allSingle l = true → ∀ a ∈ l, a.single = true := by
  induction l with
  | nil => intro _ a ha; cases ha
  | cons x r ih =>
    intro h a ha
    unfold allSingle at h
    simp only [Bool.and_eq_true] at h
    rcases List.mem_cons.1 ha with rfl | ha
    · exact h.1
    · exact ih h.2 a ha

theorem VRels.one {e : Env} {l : List AVal} {vs : List Value} (h : VRels e l vs) (hs : allSingle l = true) : ∀ v ∈ vs, v.oneCell' = true := by
  intro v hv
  obtain ⟨i, hi, rfl⟩ := List.mem_iff_getElem.1 hv
  have hl := h.length
  have hi' : i < l.length := by omega
  obtain ⟨u, hu, hr⟩ := h.get (List.getElem?_eq_getElem hi')
  rw [List.getElem?_eq_getElem hi] at hu; cases hu
  exact hr.single (allSingle_mem hs _ (List.getElem_mem hi'))

theorem storeK_ok (hR : Rel T F e m w) {id off : Nat} {vs : List AVal} {Vs : List Value} {p : Plc} (hp : e.pl id = some p) (hv : VRels e vs Vs) {k : AMem → Option β} {r : β} (h : storeK m id off vs k = some r) :
    ∃ m' w', k m' = some r ∧ (storeCells ⟨p.blk, p.base + off, none⟩ Vs).run P w = .ok () w' ∧ Rel T F e m' w' ∧ Keep F w w' ∧ m'.next = m.next := by
  unfold storeK at h
  split at h
  · split at h
    · rw [hv.nil]; exact ⟨m, w, h, rfl, hR, Keep.refl F w, rfl⟩
    · cases h
  · split at h
    · rename_i hne _ el g gb fz st ex n cs hb
      cases hc : (allSingle vs && Nat.ble fz off && Nat.ble (off + vs.length) n) with
      | false => rw [hc] at h; cases h
      | true =>
        rw [hc] at h
        simp only [cond_true] at h
        simp only [Bool.and_eq_true] at hc
        obtain ⟨⟨hs, hfz⟩, hle⟩ := hc
        have hfz := ble_nat.1 hfz
        have hle := ble_nat.1 hle
        have hb0 : m.blks.get id = some (.row el g gb fz st ex n cs) := by obtain ⟨_, _, _⟩ := m; exact hb
        obtain ⟨m1, h1, hn1, hg1, hid1, hget1, hsib1⟩ := strikeK_some hR hb0 _ _ _ h
        obtain ⟨t, h2, ht⟩ := fillK_some _ _ _ _ _ h1
        obtain ⟨m2, h3, hn2, hg2, hget2⟩ := setBlkK_some h2
        obtain ⟨c, fr, hc, hcell, hfr, hnc, hcap, hex⟩ := hR.real id _ p hb0 hp
        have hl := hv.length
        obtain ⟨w', c', hrun, hset, hsz, hx⟩ := run_storeRow (P := P) (b := p.blk) (o := p.base + off) (el := el) (fr := fr) Vs 0 c w hc (hv.one hs) (by omega) (fun x hx1 hx2 => hfr.free (by omega) (by omega))
        have hcells : ∀ i, i < n → ∃ a v, t.get i = some a ∧ c'[p.base + i]? = some v ∧ VRel e a v := by
          intro i hi
          by_cases e1 : off ≤ i ∧ i < off + vs.length
          · have h1 : vs[i - off]? = some vs[i - off] := List.getElem?_eq_getElem (by omega)
            obtain ⟨v, hv1, hr⟩ := hv.get h1
            refine ⟨vs[i - off], v, by rw [ht, if_pos e1]; exact h1, ?_, hr⟩
            rw [hx, if_pos (by omega), ← hv1]; congr 1; omega
          · obtain ⟨a, v, ha, hv1, hr⟩ := hcell i hi
            exact ⟨a, v, by rw [ht, if_neg e1]; exact ha, by rw [hx, if_neg (by omega)]; exact hv1, hr⟩
        obtain ⟨r1, r2⟩ := hR.upd (m' := m2) (w' := w') (b1 := .row el g gb fz st ex n t) hb0 hp (hn2.trans hn1) (hg2.trans hg1) (by rw [hget2]; simp)
          (fun j hj => by rw [hget2, if_neg hj]; exact hget1 j hj) rfl rfl hset.other hset.size
          ⟨c', fr, hset.row, hcells, by rw [hsz]; exact hfr, by omega, fun s hs' => by rw [hsz]; exact hcap s hs', fun h' => by rw [hsz]; exact hex h'⟩
          (fun j q b hj hbj hq hqp => by
            rw [hget2, if_neg hj] at hbj
            obtain ⟨⟨g', hgg, hgg', hco⟩, el', g'', gb', fz', st', ex', n', cs', rfl, hlt⟩ := hsib1 j p q b hj hbj hp hq hqp
            have hbm : m.blks.get j = some (.row el' g'' gb' fz' st' ex' n' cs') := by
              rcases hget1 j hj with h' | h'
              · rw [← h']; exact hbj
              · rw [h'] at hbj; cases hbj
            obtain ⟨cq, frq, hcq, hcellq, hfrq, hncq, hcapq, hexq⟩ := hR.real j _ q hbm hq
            rw [hqp, hc] at hcq
            cases hcq
            simp only [ABlk.gb] at hco
            refine ⟨c', fr, by rw [hqp]; exact hset.row, fun i hi => ?_, by rw [hsz]; exact hfrq, by omega, fun s hs' => by rw [hsz]; exact hcapq s hs', fun h' => by rw [hsz]; exact hexq h'⟩
            obtain ⟨a, v, ha, hv1, hr⟩ := hcellq i hi
            exact ⟨a, v, ha, by rw [hx, if_neg (by omega)]; exact hv1, hr⟩) hset.os hset.output hset.tape
        exact ⟨m2, w', h3, by simpa using hrun, r1, r2, hn2.trans hn1⟩
    · cases h

theorem storeVarK_ok (hT : TabOk P T) (hR : Rel T F e m w) {t : TypeId} {id off : Nat} {a : AVal} {v : Value} {p : Plc} (hp : e.pl id = some p) (hv : VRel e a v) {k : AMem → Option β} {r : β} (h : storeVarK T m t id off a k = some r) :
    ∃ m' w', k m' = some r ∧ (storeVar t ⟨p.blk, p.base + off, none⟩ v).run P w = .ok () w' ∧ Rel T F e m' w' ∧ Keep F w w' ∧ m'.next = m.next := by
  unfold storeVarK at h
  split at h
  · rename_i n hn
    cases hb : Nat.beq a.cells.length n with
    | false => rw [hb] at h; cases h
    | true =>
      rw [hb] at h
      have hl : a.live = true := by
        cases a <;> first | rfl | skip
        exfalso
        simp only [cond_true, AVal.cells, storeK] at h
        split at h
        · simp [allSingle, AVal.single] at h
        · cases h
      have hc := hv.cells' hl
      obtain ⟨m', w', h1, h2, h3, h4, h5⟩ := storeK_ok (P := P) hR hp hc h
      refine ⟨m', w', h1, ?_, h3, h4, h5⟩
      have hlen := hc.length
      rw [beq_nat.1 hb] at hlen
      simp only [Array.length_toList] at hlen
      simp [storeVar, run_size hT hn, hlen, h2]
  · cases h
end
end Go.Proofs.YtplgnjpeikamhaaGreatDoor.Xec

namespace Go.Proofs.YtplgnjpeikamhaaGreatDoor.Xec
variable {α β : Type}

theorem ByteArray_toList (l : List Nat) : (toBytes l).toList = l.map Nat.toUInt8 := by
  rw [ByteArray.toList_eq]; rfl
theorem toBytes_size (l : List Nat) : (toBytes l).size = l.length := by
  show (l.map Nat.toUInt8).toArray.size = l.length
  simp

theorem toUInt8_inj {a b : Nat} (ha : a < 256) (hb : b < 256) (h : a.toUInt8 = b.toUInt8) : a = b := by
  have := congrArg UInt8.toNat h
  simp at this
  omega

theorem toBytes_inj : ∀ {l r : List Nat}, (∀ b ∈ l, b < 256) → (∀ b ∈ r, b < 256) → l.map Nat.toUInt8 = r.map Nat.toUInt8 → l = r
  | [], [], _, _, _ => rfl
  | [], _ :: _, _, _, h => by simp at h
  | _ :: _, [], _, _, h => by simp at h
  | a :: l, b :: r, hl, hr, h => by
    simp only [List.map_cons, List.cons.injEq] at h
    rw [toUInt8_inj (hl a (by simp)) (hr b (by simp)) h.1, toBytes_inj (fun c hc => hl c (by simp [hc])) (fun c hc => hr c (by simp [hc])) h.2]

theorem natsEq_iff : ∀ {l r : List Nat}, natsEq l r = true ↔ l = r
  | [], [] => by simp [natsEq]
  | [], _ :: _ => by simp [natsEq]
  | _ :: _, [] => by simp [natsEq]
  | a :: l, b :: r => by
    unfold natsEq
    cases h : Nat.beq a b with
    | true => have := beq_nat.1 h; simp [natsEq_iff, this]
    | false => have := beq_nat_false.1 h; simp [this]

theorem natsEq_false {l r : List Nat} : natsEq l r = false ↔ l ≠ r := by
  cases h : natsEq l r with
  | true => simp [natsEq_iff.1 h]
  | false => simp; intro e; rw [natsEq_iff.2 e] at h; cases h

theorem intEq_iff {a b : Int} : intEq a b = true ↔ a = b := by
  cases a <;> cases b <;> simp [intEq] <;> omega
theorem intEq_beq (a b : Int) : intEq a b = (a == b) := by
  cases h : intEq a b with
  | true => simp [intEq_iff.1 h]
  | false =>
    have : a ≠ b := fun e => by rw [intEq_iff.2 e] at h; cases h
    simp [this]
theorem intLe_iff {a b : Int} : intLe a b = true ↔ a ≤ b := by
  cases a <;> cases b <;> simp [intLe] <;> omega
theorem intLe_decide (a b : Int) : intLe a b = decide (a ≤ b) := by
  cases h : intLe a b with
  | true => simp [intLe_iff.1 h]
  | false =>
    have : ¬ a ≤ b := fun e => by rw [intLe_iff.2 e] at h; cases h
    simp [this]

theorem natsLess_eq : ∀ {l r : List Nat}, (∀ b ∈ l, b < 256) → (∀ b ∈ r, b < 256) → natsLess l r = Op.bytesLess (l.map Nat.toUInt8) (r.map Nat.toUInt8)
  | [], [], _, _ => rfl
  | _ :: _, [], _, _ => rfl
  | [], _ :: _, _, _ => rfl
  | a :: l, b :: r, hl, hr => by
    have ih := natsLess_eq (l := l) (r := r) (fun c hc => hl c (by simp [hc])) (fun c hc => hr c (by simp [hc]))
    have ha := hl a (by simp)
    have hb := hr b (by simp)
    simp only [natsLess, List.map_cons, Op.bytesLess, ← ih]
    have e1 : (a.toUInt8 < b.toUInt8) = (a < b) := by
      rw [UInt8.lt_iff_toNat_lt]; simp; rw [Nat.mod_eq_of_lt ha, Nat.mod_eq_of_lt hb]
    have e2 : (a.toUInt8 == b.toUInt8) = Nat.beq a b := by
      cases h : Nat.beq a b with
      | true => rw [beq_nat.1 h]; simp
      | false =>
        have := beq_nat_false.1 h
        simp
        exact fun h' => this (toUInt8_inj ha hb h')
    rw [e2]
    cases h1 : Nat.blt a b with
    | true => have := blt_nat.1 h1; simp [e1, this]
    | false =>
      have : ¬ a < b := fun h' => by rw [blt_nat.2 h'] at h1; cases h1
      simp only [e1, this, decide_false, Bool.false_or, cond_false]
      cases Nat.beq a b <;> simp

theorem bytes_beq {a c : List Nat} (hx : ∀ b ∈ a, b < 256) (hy : ∀ b ∈ c, b < 256) : ((toBytes a).toList == (toBytes c).toList) = natsEq a c := by
  rw [ByteArray_toList, ByteArray_toList]
  cases h1 : natsEq a c with
  | true => rw [natsEq_iff.1 h1]; simp
  | false =>
    simp only [beq_eq_false_iff_ne, ne_eq]
    exact fun h3 => natsEq_false.1 h1 (toBytes_inj hx hy h3)

section
variable {P : Program} {T : Tab} (hT : TabOk P T)
include hT

theorem part_ok {e : Env} {t : TypeId} {cs : List AVal} {vs : List Value} (hv : VRels e cs vs) {off : Nat} {a : AVal} (h : part T t cs off = some a) (w : World) :
    ∃ v, (Go.part t vs.toArray off).run P w = .ok v w ∧ VRel e a v := by
  unfold part at h
  split at h
  · rename_i n ha hs
    cases hle : Nat.ble (off + n) cs.length with
    | false => rw [hle] at h; cases h
    | true =>
      rw [hle] at h; cases h
      refine ⟨.agg (vs.toArray.extract off (off + n)), ?_, ?_⟩
      · simp [Go.part, run_agg hT ha, run_size hT hs]
      · simp only [VRel]
        refine ⟨(vs.drop off).take n, (hv.drop off).take n, ?_⟩
        simp [List.extract_eq_take_drop]
  · rename_i ha
    obtain ⟨v, hv1, hr⟩ := hv.get h
    exact ⟨v, by simp [Go.part, run_agg hT ha, hv1], hr⟩
  · cases h

theorem fieldsEq_ok {e : Env} {D : Nat} {eq : TypeId → AVal → AVal → Option Bool} {xs ys : List AVal} {Xs Ys : List Value} (hx : VRels e xs Xs) (hy : VRels e ys Ys)
    (heq : ∀ t x y X Y b, eq t x y = some b → VRel e x X → VRel e y Y → ∀ w, (Op.equalIn D t X Y).run P w = .ok b w) : ∀ (fs : List Field) (b : Bool), fieldsEq T eq fs xs ys = some b →
    ∀ w, (Op.eqFields D Xs.toArray Ys.toArray fs).run P w = .ok b w := by
  intro fs
  induction fs with
  | nil => intro b h w; simp [fieldsEq] at h; subst h; simp [Op.eqFields]
  | cons f fs ih =>
    intro b h w
    unfold fieldsEq at h
    cases hn : (f.name == "_") with
    | true => rw [hn] at h; cases h
    | false =>
      rw [hn] at h
      simp only [cond_false] at h
      have hn' : f.name ≠ "_" := by simpa using hn
      split at h
      · rename_i a c ha hc
        obtain ⟨A, hA, hrA⟩ := part_ok hT hx ha w
        obtain ⟨C, hC, hrC⟩ := part_ok hT hy hc w
        split at h
        · rename_i he
          have := heq _ _ _ _ _ _ he hrA hrC w
          simp [Op.eqFields, hn', hA, hC, this, ih _ h w]
        · rename_i he
          cases h
          have := heq _ _ _ _ _ _ he hrA hrC w
          simp [Op.eqFields, hn', hA, hC, this]
        · cases h
      · cases h

set_option maxHeartbeats 1000000 in
theorem aequal_ok {e : Env} : ∀ (d : Nat) (t : TypeId) (x y : AVal) (X Y : Value) (b : Bool), aequal T d t x y = some b → VRel e x X → VRel e y Y →
    ∀ (D : Nat) (w : World), d ≤ D → (Op.equalIn D t X Y).run P w = .ok b w := by
  intro d
  induction d with
  | zero => intro t x y X Y b h; simp [aequal] at h
  | succ d ih =>
    intro t x y X Y b h hx hy D w hD
    obtain ⟨D, rfl⟩ : ∃ D', D = D' + 1 := ⟨D - 1, by omega⟩
    unfold aequal at h
    split at h
    all_goals (first | (cases h; done) | skip)
    · rename_i hu; simp only [VRel] at hx hy; subst hx; subst hy
      rename_i a c
      cases h
      unfold Op.equalIn; simp [run_und hT hu]
      cases a <;> cases c <;> rfl
    · rename_i hu; simp only [VRel] at hx hy; subst hx; subst hy
      rename_i k a k' c
      cases hk : decide (k = k') with
      | false => rw [hk] at h; cases h
      | true =>
        rw [hk] at h; cases h
        have := of_decide_eq_true hk
        unfold Op.equalIn; simp [run_und hT hu, this, intEq_beq]
    · rename_i hu; simp only [VRel] at hx hy
      obtain ⟨rfl, hx⟩ := hx; obtain ⟨rfl, hy⟩ := hy
      rename_i a c
      cases h
      rw [run_equalIn_string w D t _ _ (und_ok hT hu), bytes_beq hx hy]
    · rename_i hu; simp only [VRel] at hx hy; subst hx; subst hy; cases h
      unfold Op.equalIn; simp [run_und hT hu]
    · rename_i hu; simp only [VRel] at hx hy; subst hx; obtain ⟨p, _, rfl⟩ := hy; cases h
      unfold Op.equalIn; simp [run_und hT hu]
    · rename_i hu; simp only [VRel] at hx hy; subst hy; obtain ⟨p, _, rfl⟩ := hx; cases h
      unfold Op.equalIn; simp [run_und hT hu]
    · rename_i el i a j c hu; simp only [VRel] at hx hy
      obtain ⟨p, hp, rfl⟩ := hx
      obtain ⟨q, hq, rfl⟩ := hy
      split at h
      · rename_i sz hs
        cases hij : Nat.beq i j with
        | false => rw [hij] at h; cases h
        | true =>
          rw [hij] at h
          simp only [cond_true, Option.some.injEq] at h
          have := beq_nat.1 hij
          subst this
          rw [hp] at hq; cases hq
          unfold Op.equalIn
          simp [run_und hT hu, run_size hT hs, sameAddr]
          rw [← h]
          cases h1 : Nat.beq a c with
          | true => simp [beq_nat.1 h1]
          | false => have := beq_nat_false.1 h1; simp; omega
      · cases h
    · rename_i hu; simp only [VRel] at hx hy; subst hx; obtain ⟨u, _, rfl⟩ := hy; cases h
      unfold Op.equalIn; simp [run_und hT hu]
    · rename_i hu; simp only [VRel] at hx hy; subst hy; obtain ⟨u, _, rfl⟩ := hx; cases h
      unfold Op.equalIn; simp [run_und hT hu]
    · rename_i fields xs ys hu
      simp only [VRel] at hx hy
      obtain ⟨Xs, hxs, rfl⟩ := hx
      obtain ⟨Ys, hys, rfl⟩ := hy
      cases hps : T.ps t with
      | false => rw [hps] at h; cases h
      | true =>
        rw [hps] at h
        simp only [Bool.not_true, cond_false] at h
        have hf : P.underlying t = some (.struct (P.fieldsOf t)) ∧ P.fieldsOf t = fields := by
          have := und_ok hT hu
          unfold Program.fieldsOf
          rw [this]
          exact ⟨rfl, rfl⟩
        rw [run_equalIn_struct w D t _ _ hf.1 (hT.ps t hps).2, hf.2]
        exact fieldsEq_ok hT hxs hys (fun t' x y X Y b hh hx' hy' w' => ih t' x y X Y b hh hx' hy' D w' (by omega)) _ _ h w
    all_goals (rename_i hu; simp only [VRel] at hx hy)
    all_goals (cases h)
    · subst hx; subst hy; unfold Op.equalIn; simp [run_und hT hu]
    · subst hx; obtain ⟨p, n, _, _, rfl⟩ := hy; unfold Op.equalIn; simp [run_und hT hu]
    · subst hy; obtain ⟨p, n, _, _, rfl⟩ := hx; unfold Op.equalIn; simp [run_und hT hu]
    · subst hx; obtain ⟨p, _, rfl⟩ := hy; unfold Op.equalIn; simp [run_und hT hu]
    · subst hy; obtain ⟨p, _, rfl⟩ := hx; unfold Op.equalIn; simp [run_und hT hu]
    · subst hx; subst hy; unfold Op.equalIn; simp [run_und hT hu]
    · subst hx; obtain ⟨p, _, rfl⟩ := hy; unfold Op.equalIn; simp [run_und hT hu]
    · subst hy; obtain ⟨p, _, rfl⟩ := hx; unfold Op.equalIn; simp [run_und hT hu]
    · subst hx; subst hy; unfold Op.equalIn; simp [run_und hT hu]
    · subst hx; obtain ⟨_, _, _, _, _, rfl⟩ := hy; unfold Op.equalIn; simp [run_und hT hu]
    · subst hy; obtain ⟨_, _, _, _, _, rfl⟩ := hx; unfold Op.equalIn; simp [run_und hT hu]
    · subst hx; obtain ⟨p, _, rfl⟩ := hy; unfold Op.equalIn; simp [run_und hT hu]
    · subst hy; obtain ⟨p, _, rfl⟩ := hx; unfold Op.equalIn; simp [run_und hT hu]
end
end Go.Proofs.YtplgnjpeikamhaaGreatDoor.Xec
