/- An executor that knows values in part, and carries out the model's steps for every tape at once. -/
import GoSem.Step
set_option linter.unusedSectionVars false
set_option linter.unnecessarySimpa false
set_option linter.unusedVariables false
set_option linter.unusedSimpArgs false
namespace Go.Proofs.YtplgnjpeikamhaaGreatDoor.Xec

/-! ### Trees of numbered things -/
inductive Tr (α : Type) : Type where
  | lf : Tr α
  | nd : Tr α → Option α → Tr α → Tr α

namespace Tr
variable {α β : Type}

def get : Tr α → Nat → Option α
  | .lf, _ => none
  | .nd l v r, n => match n with
    | 0 => v
    | m + 1 => bif Nat.beq (m % 2) 0 then l.get (m / 2) else r.get (m / 2)

/-- sets number n, and goes on: what is handed on is a tree, not a promise of one -/
def setK : Nat → Tr α → Nat → Option α → (Tr α → Option β) → Option β
  | 0, _, _, _, _ => none
  | f + 1, t, n, v, k => match t with
    | .lf => match n with
      | 0 => k (.nd .lf v .lf)
      | m + 1 => bif Nat.beq (m % 2) 0 then setK f .lf (m / 2) v fun l => k (.nd l none .lf) else setK f .lf (m / 2) v fun r => k (.nd .lf none r)
    | .nd l x r => match n with
      | 0 => k (.nd l v r)
      | m + 1 => bif Nat.beq (m % 2) 0 then setK f l (m / 2) v fun l' => k (.nd l' x r) else setK f r (m / 2) v fun r' => k (.nd l x r')
end Tr

def natK {β : Type} (n : Nat) (k : Nat → β) : β := match n with
  | 0 => k 0
  | m + 1 => k (m + 1)

def intK {β : Type} (n : Int) (k : Int → β) : β := match n with
  | .ofNat m => natK m fun m => k (.ofNat m)
  | .negSucc m => natK m fun m => k (.negSucc m)

/-! ### Values -/
inductive ACap where
  | k (n : Nat)
  | u (eoff : Nat)

inductive AVal where
  | bool (b : Bool)
  | int (k : IntKind) (n : Int)
  | str (l : List Nat)
  | nilp
  | ptr (id off : Nat)
  | nils
  | slice (id off len : Nat) (c : ACap)
  | esl (id : Nat)
  | nilm
  | map (id : Nat)
  | func (fn : Fn) (first captured : List AVal)
  | yld (id : Nat)
  | nilf
  | iface (t : TypeId) (v : AVal)
  | nili
  | agg (l : List AVal)
  | tup (l : List AVal)
  /-- unknown values, by their numbers; an unknown whole number between bounds; an unknown text that is none of these -/
  | sym (k : Nat)
  | symi (k : Nat) (kd : IntKind) (lo hi : Option Int)
  | syms (k : Nat) (ne : List (List Nat))
  /-- whatever it be: nobody looks at it -/
  | junk

def aundef : AVal := .tup []

/-- a list, element by element -/
def absVs (f : Value → Option AVal) : List Value → Option (List AVal)
  | [] => some []
  | v :: r => match f v, absVs f r with
    | some a, some l => some (a :: l)
    | _, _ => none

/-- a constant of the program's text -/
def absV : Nat → Value → Option AVal
  | 0, _ => none
  | d + 1, v => match v with
    | .bool b => some (.bool b)
    | .int k n => some (.int k n)
    | .string s => some (.str (s.data.toList.map UInt8.toNat))
    | .pointer none => some .nilp
    | .slice none 0 0 => some .nils
    | .map none => some .nilm
    | .nilFunc => some .nilf
    | .nilIface => some .nili
    | .func (.func f) ⟨[]⟩ ⟨[]⟩ => some (.func (.func f) [] [])
    | .iface t v => match absV d v with
      | some a => some (.iface t a)
      | none => none
    | .agg ⟨l⟩ => match absVs (absV d) l with
      | some l => some (.agg l)
      | none => none
    | .tuple ⟨l⟩ => match absVs (absV d) l with
      | some l => some (.tup l)
      | none => none
    | _ => none

def AVal.cells : AVal → List AVal
  | .agg l => l
  | v => [v]

/-- one cell holds it -/
def AVal.single : AVal → Bool
  | .agg _ => false
  | .tup _ => false
  | .junk => false
  | _ => true

/-- is it more than junk? -/
def AVal.live : AVal → Bool
  | .junk => false
  | _ => true

/-! ### Memory -/
structure AEnt where
  key : AVal
  val : AVal
  born : Nat

inductive ATgt where
  | fn (fn : Fn) (captured : List AVal)
  | collected (id : Nat)

structure ADef where
  tgt : ATgt
  args : List AVal

structure ALoop where
  state : LoopState
  pending : Option Code
  fn : FuncId
  tm : Tr AVal
  nt : Nat
  params : List Tmp
  assign : Code
  body : Code
  defers : Nat

inductive ABlk where
  | row (elem : TypeId) (grp : Option Nat) (gb fz : Nat) (st ex : Bool) (n : Nat) (cs : Tr AVal)
  | map (es : List AEnt) (clock : Nat)
  | siter (s : List Nat) (pos : Nat)
  | miter (m : Option Nat) (since : Nat) (seen : List Nat) (stepped : Nat)
  /-- an iterator in a round: the entry it stands at -/
  | cur (m : Nat) (since born stepped : Nat)
  | loop (l : ALoop)
  | defs (calls : Option (List ADef))

structure AMem where
  blks : Tr ABlk
  next : Nat
  grps : Tr (List Nat)

/-! ### What the executor knows of the program -/
structure Tab where
  fn : Nat → Option Func
  ti : Nat → Option TypeInfo
  /-- two values of this struct type are equal as their fields are -/
  ps : Nat → Bool
  /-- an exact row of type e, so many cells: may a variable of type u be seen at off? -/
  lies : Nat → Nat → Nat → Nat → Bool
  /-- functions without a Go body that are known -/
  ext : Nat → Option Nat
  /-- functions of which it is known that they answer true and change nothing -/
  kn : Nat → Bool
  /-- how many package-level variables there are -/
  ng : Nat

def Tab.und (T : Tab) (t : TypeId) : Option TypeDesc :=
  match T.ti t with
  | some i => match i.desc with
    | .named _ u => match T.ti u with
      | some j => some j.desc
      | none => none
    | d => some d
  | none => none

def Tab.size (T : Tab) (t : TypeId) : Option Nat := match T.ti t with
  | some i => some i.size
  | none => none

def Tab.zero (T : Tab) (t : TypeId) : Option AVal := match T.ti t with
  | some i => match i.zero with
    | some z => absV 5 z
    | none => none
  | none => none

def Tab.agg (T : Tab) (t : TypeId) : Option Bool := match T.und t with
  | some (.struct _) => some true
  | some (.array _ _) => some true
  | some _ => some false
  | none => none

/-! ### Reading and writing -/
def AMem.get (m : AMem) (id : Nat) : Option ABlk := match m with | ⟨b, _, _⟩ => b.get id

/-- n cells from off on -/
def readCells (cs : Tr AVal) : Nat → Nat → Option (List AVal)
  | _, 0 => some []
  | off, n + 1 => match cs.get off with
    | some v => match readCells cs (off + 1) n with
      | some l => some (v :: l)
      | none => none
    | none => none

def AMem.cells (m : AMem) (id off n : Nat) : Option (List AVal) := match m.get id with
  | some (.row _ _ _ _ _ _ k cs) => bif Nat.ble (off + n) k then readCells cs off n else none
  | _ => none

def loadVar (T : Tab) (m : AMem) (t : TypeId) (id off : Nat) : Option AVal :=
  match T.agg t, T.size t with
  | some true, some n => match m.cells id off n with
    | some l => some (.agg l)
    | none => none
  | some false, _ => match m.cells id off 1 with
    | some [v] => some v
    | _ => none
  | _, _ => none

def fillK {β : Type} : List AVal → Nat → Tr AVal → (Tr AVal → Nat → Option β) → Option β
  | [], i, t, k => k t i
  | v :: r, i, t, k => t.setK 40 i (some v) fun t' => natK (i + 1) fun j => fillK r j t' k

def newBlkK {β : Type} (m : AMem) (o : ABlk) (k : Nat → AMem → Option β) : Option β := match m with
  | ⟨b, n, g⟩ => b.setK 40 n (some o) fun b' => natK (n + 1) fun n' => k n ⟨b', n', g⟩

def newRowK {β : Type} (m : AMem) (elem : TypeId) (cells : List AVal) (k : Nat → AMem → Option β) : Option β :=
  fillK cells 0 .lf fun cs n => newBlkK m (.row elem none 0 0 false true n cs) k

def setBlkK {β : Type} (m : AMem) (id : Nat) (o : ABlk) (k : AMem → Option β) : Option β := match m with
  | ⟨b, n, g⟩ => b.setK 40 id (some o) fun b' => k ⟨b', n, g⟩

/-- whoever of the others shows a place of the group from q - 1 on is struck -/
def killK {β : Type} (id q : Nat) : List Nat → Tr ABlk → (Tr ABlk → Option β) → Option β
  | [], b, k => k b
  | j :: r, b, k => bif Nat.beq j id then killK id q r b k else match b.get j with
    | none => killK id q r b k
    | some (.row _ _ gb _ _ _ n _) => bif Nat.blt (gb + n) q then killK id q r b k else b.setK 40 j none fun b' => killK id q r b' k
    | some _ => none

/-- before a write through id -/
def strikeK {β : Type} (m : AMem) (id : Nat) (grp : Option Nat) (q : Nat) (k : AMem → Option β) : Option β := match grp with
  | none => k m
  | some g => match m with
    | ⟨b, n, gs⟩ => match gs.get g with
      | some l => killK id q l b fun b' => k ⟨b', n, gs⟩
      | none => none

def allSingle : List AVal → Bool
  | [] => true
  | v :: r => v.single && allSingle r

def lenK {α β : Type} : List α → Nat → (Nat → β) → β
  | [], n, k => k n
  | _ :: r, n, k => lenK r (n + 1) k

def storeK {β : Type} (m : AMem) (id off : Nat) (vs : List AVal) (k : AMem → Option β) : Option β :=
  match vs with
  | [] => match m.get id with
    | some (.row ..) => k m
    | _ => none
  | _ => match m.get id with
    | some (.row e g gb fz st ex n cs) =>
      bif allSingle vs && Nat.ble fz off && Nat.ble (off + vs.length) n then
        strikeK m id g (gb + off + 1) fun m' => fillK vs off cs fun cs' _ => setBlkK m' id (.row e g gb fz st ex n cs') k
      else none
    | _ => none

def storeVarK {β : Type} (T : Tab) (m : AMem) (t : TypeId) (id off : Nat) (v : AVal) (k : AMem → Option β) : Option β :=
  match T.size t with
  | some n => bif Nat.beq v.cells.length n then storeK m id off v.cells k else none
  | none => none

def part (T : Tab) (t : TypeId) (cs : List AVal) (off : Nat) : Option AVal :=
  match T.agg t, T.size t with
  | some true, some n => bif Nat.ble (off + n) cs.length then some (.agg ((cs.drop off).take n)) else none
  | some false, _ => cs[off]?
  | _, _ => none

/-! ### Equality -/
/-- is it a plain datum, whose bits decide? -/
def plainKey : AVal → Bool
  | .bool _ => true
  | .int _ _ => true
  | .str _ => true
  | _ => false

def natsEq : List Nat → List Nat → Bool
  | [], [] => true
  | a :: l, b :: r => bif Nat.beq a b then natsEq l r else false
  | _, _ => false

def natsLess : List Nat → List Nat → Bool
  | _, [] => false
  | [], _ :: _ => true
  | a :: l, b :: r => bif Nat.blt a b then true else bif Nat.beq a b then natsLess l r else false

def intEq : Int → Int → Bool
  | .ofNat a, .ofNat b => Nat.beq a b
  | .negSucc a, .negSucc b => Nat.beq a b
  | _, _ => false

def intLe : Int → Int → Bool
  | .ofNat a, .ofNat b => Nat.ble a b
  | .negSucc a, .negSucc b => Nat.ble b a
  | .negSucc _, .ofNat _ => true
  | .ofNat _, .negSucc _ => false

def fieldsEq (T : Tab) (eq : TypeId → AVal → AVal → Option Bool) : List Field → List AVal → List AVal → Option Bool
  | [], _, _ => some true
  | f :: fs, xs, ys => bif f.name == "_" then none else match part T f.type xs f.offset, part T f.type ys f.offset with
    | some a, some b => match eq f.type a b with
      | some true => fieldsEq T eq fs xs ys
      | some false => some false
      | none => none
    | _, _ => none

/-- are two values of type t equal? none: it can't be told -/
def aequal (T : Tab) : Nat → TypeId → AVal → AVal → Option Bool
  | 0, _, _, _ => none
  | d + 1, t, x, y =>
    match T.und t, x, y with
    | some .bool, .bool a, .bool b => some (bif a then b else !b)
    | some (.int _), .int k a, .int k' b => bif decide (k = k') then some (intEq a b) else none
    | some .string, .str a, .str b => some (natsEq a b)
    | some (.pointer _), .nilp, .nilp => some true
    | some (.pointer _), .nilp, .ptr .. => some false
    | some (.pointer _), .ptr .., .nilp => some false
    | some (.pointer e), .ptr i a, .ptr j b => match T.size e with
      | some (_ + 1) => bif Nat.beq i j then some (Nat.beq a b) else none
      | _ => none
    | some (.interface _), .nili, .iface _ _ => some false
    | some (.interface _), .iface _ _, .nili => some false
    | some (.struct fields), .agg xs, .agg ys => bif !T.ps t then none else fieldsEq T (aequal T d) fields.toList xs ys
    | some (.slice _), .nils, .nils => some true
    | some (.slice _), .nils, .slice .. => some false
    | some (.slice _), .slice .., .nils => some false
    | some (.slice _), .nils, .esl .. => some false
    | some (.slice _), .esl .., .nils => some false
    | some (.map _ _), .nilm, .nilm => some true
    | some (.map _ _), .nilm, .map _ => some false
    | some (.map _ _), .map _, .nilm => some false
    | some (.func _ _ _), .nilf, .nilf => some true
    | some (.func _ _ _), .nilf, .func .. => some false
    | some (.func _ _ _), .func .., .nilf => some false
    | some (.func _ _ _), .nilf, .yld .. => some false
    | some (.func _ _ _), .yld .., .nilf => some false
    | _, _, _ => none

end Go.Proofs.YtplgnjpeikamhaaGreatDoor.Xec

namespace Go.Proofs.YtplgnjpeikamhaaGreatDoor.Xec
variable {β : Type}

def evalO (ng : Nat) (tm : Tr AVal) : Operand → Option AVal
  | .tmp t => match tm.get t with
    | some v => some v
    | none => some aundef
  | .const v => absV 5 v
  | .global g => bif Nat.blt g ng then some (.ptr g 0) else none
  | .func f => some (.func (.func f) [] [])

def appK {α : Type} : List α → List α → (List α → β) → β
  | [], b, k => k b
  | x :: a, b, k => appK a b fun r => k (x :: r)

def takeK {α : Type} : Nat → List α → (List α → β) → β
  | 0, _, k => k []
  | _ + 1, [], k => k []
  | n + 1, x :: l, k => takeK n l fun r => k (x :: r)

/-- bytes as cells -/
def bytesK : List Nat → (List AVal → β) → β
  | [], k => k []
  | b :: l, k => bytesK l fun r => k (.int .u8 (.ofNat b) :: r)

/-- cells as bytes -/
def unbytesK : List AVal → (List Nat → Option β) → Option β
  | [], k => k []
  | .int .u8 (.ofNat b) :: l, k => bif Nat.blt b 256 then unbytesK l fun r => k (b :: r) else none
  | _, _ => none

def intRes (kd : IntKind) (n : Int) (k : AVal → Option β) : Option β := intK (kd.wrap n) fun r => k (.int kd r)

/-- surely at most b; surely at least b; surely not b -/
def below (hi : Option Int) (b : Int) : Bool := match hi with
  | some h => intLe h b
  | none => false
def above (lo : Option Int) (b : Int) : Bool := match lo with
  | some l => intLe b l
  | none => false
def outOf (lo hi : Option Int) (b : Int) : Bool := below hi (b - 1) || above lo (b + 1)

def abin (T : Tab) (op : BinOp) (xt : TypeId) (cst : Bool) (x y : AVal) (k : AVal → Option β) : Option β :=
  match x, y with
  | .int kx a, .int ky b =>
    match op with
    | .shl => bif intLe 0 b then intRes kx (a * 2 ^ (min b.toNat kx.bits)) k else none
    | .shr => bif intLe 0 b then intK (a.fdiv (2 ^ (min b.toNat kx.bits))) fun r => k (.int kx r) else none
    | _ => bif decide (kx = ky) then
      match op with
      | .add => intRes kx (a + b) k
      | .sub => intRes kx (a - b) k
      | .mul => intRes kx (a * b) k
      | .quo => bif intEq b 0 then none else intRes kx (a.tdiv b) k
      | .rem => bif intEq b 0 then none else intK (a.tmod b) fun r => k (.int kx r)
      | .and => intRes kx (BitVec.ofInt kx.bits a &&& BitVec.ofInt kx.bits b).toNat k
      | .or => intRes kx (BitVec.ofInt kx.bits a ||| BitVec.ofInt kx.bits b).toNat k
      | .xor => intRes kx (BitVec.ofInt kx.bits a ^^^ BitVec.ofInt kx.bits b).toNat k
      | .andNot => intRes kx (BitVec.ofInt kx.bits a &&& ~~~ BitVec.ofInt kx.bits b).toNat k
      | .eql => k (.bool (intEq a b))
      | .neq => k (.bool (!intEq a b))
      | .lss => k (.bool (!intLe b a))
      | .leq => k (.bool (intLe a b))
      | .gtr => k (.bool (!intLe a b))
      | .geq => k (.bool (intLe b a))
      | _ => none
      else none
  | .str a, .str b =>
    match op with
    | .add => appK a b fun r => bif Nat.blt r.length 9223372036854775808 then k (.str r) else none
    | .eql => k (.bool (natsEq a b))
    | .neq => k (.bool (!natsEq a b))
    | .lss => k (.bool (natsLess a b))
    | .leq => k (.bool (natsLess a b || natsEq a b))
    | .gtr => k (.bool (!(natsLess a b || natsEq a b)))
    | .geq => k (.bool (!natsLess a b))
    | _ => none
  | .symi j kx lo hi, .int ky b => bif decide (kx = ky) then
      match op with
      | .eql => bif outOf lo hi b then k (.bool false) else none
      | .neq => bif outOf lo hi b then k (.bool true) else none
      | .lss => bif below hi (b - 1) then k (.bool true) else bif above lo b then k (.bool false) else none
      | .leq => bif below hi b then k (.bool true) else bif above lo (b + 1) then k (.bool false) else none
      | .gtr => bif below hi b then k (.bool false) else bif above lo (b + 1) then k (.bool true) else none
      | .geq => bif below hi (b - 1) then k (.bool false) else bif above lo b then k (.bool true) else none
      | _ => none
      else none
  | .syms _ ne, .str b => match op with
    | .eql => bif ne.any (fun l => natsEq l b) then k (.bool false) else none
    | .neq => bif ne.any (fun l => natsEq l b) then k (.bool true) else none
    | _ => none
  | .str b, .syms _ ne => match op with
    | .eql => bif ne.any (fun l => natsEq l b) then k (.bool false) else none
    | .neq => bif ne.any (fun l => natsEq l b) then k (.bool true) else none
    | _ => none
  | .nili, .nili => match op, cst, T.und xt with
    | .eql, true, some (.interface _) => k (.bool true)
    | .neq, true, some (.interface _) => k (.bool false)
    | _, _, _ => none
  | _, _ =>
    match op with
    | .eql => match aequal T 20 xt x y with
      | some true => k (.bool true)
      | some false => k (.bool false)
      | none => none
    | .neq => match aequal T 20 xt x y with
      | some true => k (.bool false)
      | some false => k (.bool true)
      | none => none
    | _ => none

def isU8 (T : Tab) (t : TypeId) : Bool := match T.und t, T.size t with
  | some (.int .u8), some 1 => true
  | _, _ => false

def aconv (T : Tab) (src dst : TypeId) (x : AVal) (m : AMem) (k : AVal → AMem → Option β) : Option β :=
  match T.und src, T.und dst, x with
  | some _, some (.int kd), .int _ n => intK (kd.wrap n) fun r => k (.int kd r) m
  | some _, some (.int kd), .symi j k' lo hi => bif decide (kd = k') then k (.symi j k' lo hi) m else none
  | some _, some .string, .str l => k (.str l) m
  | some _, some .string, .int _ (.ofNat n) => bif Nat.blt n 128 then k (.str [n]) m else none
  | some _, some (.slice e), .str l => bif isU8 T e then
      bytesK l fun cs => fillK cs 0 .lf fun t n => newBlkK m (.row e none 0 0 true false n t) fun id m' => k (.slice id 0 n (.u 0)) m'
    else none
  | some (.slice e), some .string, .slice id off len _ => bif isU8 T e then
      match m.cells id off len with
      | some cs => unbytesK cs fun l => k (.str l) m
      | none => none
    else none
  | some (.slice e), some .string, .nils => bif isU8 T e then k (.str []) m else none
  | some (.slice e), some .string, .esl _ => bif isU8 T e then k (.str []) m else none
  | some (.pointer t), some .unsafePointer, .ptr id off => match m.get id, T.size t with
    | some (.row _ _ _ _ _ _ n _), some (_ + 1) => bif Nat.blt off n then k x m else none
    | _, _ => none
  | some (.pointer _), some .unsafePointer, .nilp => k .nilp m
  | some .unsafePointer, some (.pointer _), .nilp => k .nilp m
  | some .unsafePointer, some (.pointer u), .ptr id off => match m.get id with
    | some (.row e _ _ _ _ true n _) => bif T.lies e n off u && (T.size u).isSome then k x m else none
    | _ => none
  | _, _, _ => none

/-- the address of a slice's element, or of an array's -/
def aindexAddr (T : Tab) (t : TypeId) (x i : AVal) (k : AVal → Option β) : Option β :=
  match T.und t, x, i with
  | some (.array len e), .ptr id off, .int _ (.ofNat i) => match T.size e with
    | some s => bif Nat.blt i len then natK (off + i * s) fun o => k (.ptr id o) else none
    | none => none
  | some (.slice e), .slice id off len _, .int _ (.ofNat i) => match T.size e with
    | some s => bif Nat.blt i len then natK (off + i * s) fun o => k (.ptr id o) else none
    | none => none
  | _, _, _ => none

def aindex (T : Tab) (t : TypeId) (x i : AVal) (k : AVal → Option β) : Option β :=
  match T.und t, x, i with
  | some (.array len e), .agg cs, .int _ (.ofNat i) => match T.size e with
    | some s => bif Nat.blt i len then (match part T e cs (i * s) with
      | some v => k v
      | none => none) else none
    | none => none
  | some .string, .str l, .int _ (.ofNat i) => match l[i]? with
    | some b => k (.int .u8 (.ofNat b))
    | none => none
  | _, _, _ => none

/-- a bound of a slice expression: in its place, or none -/
def abound (x : Option AVal) (dflt top : Nat) (k : Nat → Option β) : Option β := match x with
  | none => k dflt
  | some (.int _ (.ofNat n)) => bif Nat.ble n top then k n else none
  | some _ => none

def aslice (T : Tab) (t : TypeId) (x : AVal) (lo hi mx : Option AVal) (k : AVal → Option β) : Option β :=
  match T.und t, x with
  | some (.array n e), .ptr id off => match T.size e with
    | some s => abound mx n n fun m => abound hi n m fun h => abound lo 0 h fun l =>
        natK (bif Nat.beq m l then off else off + l * s) fun o => natK (h - l) fun len => natK (m - l) fun c => k (.slice id o len (.k c))
    | none => none
  | some .string, .str s => match mx with
    | none => lenK s 0 fun sz => abound hi sz sz fun h => abound lo 0 h fun l => takeK (h - l) (s.drop l) fun r => k (.str r)
    | some _ => none
  | some (.slice e), .slice id off len (.k c) => match T.size e with
    | some s => abound mx c c fun m => abound hi len m fun h => abound lo 0 h fun l =>
        natK (bif Nat.beq m l then off else off + l * s) fun o => natK (h - l) fun len => natK (m - l) fun c => k (.slice id o len (.k c))
    | none => none
  | some (.slice e), .slice id off len (.u eo) => match T.size e, mx with
    | some s, none => abound hi len len fun h => abound lo 0 h fun l =>
        bif Nat.beq l 0 || Nat.blt l len then
          natK (off + l * s) fun o => natK (h - l) fun len => natK (eo + l) fun eo => k (.slice id o len (.u eo))
        else none
    | some s, some mx => abound (some mx) len len fun m => abound hi len m fun h => abound lo 0 h fun l =>
        natK (bif Nat.beq m l then off else off + l * s) fun o => natK (h - l) fun len => natK (m - l) fun c => k (.slice id o len (.k c))
    | _, _ => none
  | some (.slice e), .nils => abound mx 0 0 fun m => abound hi 0 m fun h => abound lo 0 h fun _ => bif (T.size e).isSome then k .nils else none
  | _, _ => none

/-! ### Maps -/
def scalarT (T : Tab) (t : TypeId) : Bool := match T.und t with
  | some (.int _) => true
  | some .string => true
  | some .bool => true
  | _ => false

/-- a plain datum of one cell -/
def plain1 : AVal → Bool
  | .bool _ => true
  | .int _ _ => true
  | .str _ => true
  | _ => false

/-- the keys that are taken: scalars, and structs of such -/
def keyFits (T : Tab) (t : TypeId) (key : AVal) : Bool := match T.und t, key with
  | some (.int _), .int _ _ => true
  | some .string, .str _ => true
  | some .bool, .bool _ => true
  | some (.struct fs), .agg l => T.ps t && (fs.toList.all fun f => scalarT T f.type && (part T f.type l f.offset).isSome) && l.all plain1
  | _, _ => false

def plainEq1 : AVal → AVal → Bool
  | .bool a, .bool b => bif a then b else !b
  | .int k a, .int k' b => decide (k = k') && intEq a b
  | .str a, .str b => natsEq a b
  | _, _ => false

def plainEqs : List AVal → List AVal → Bool
  | [], [] => true
  | a :: l, b :: r => plainEq1 a b && plainEqs l r
  | _, _ => false

/-- surely the same plain datum -/
def plainEq : AVal → AVal → Bool
  | .agg a, .agg b => plainEqs a b
  | a, b => plainEq1 a b

/-- the place of a key, its value, its birth -/
def findK (T : Tab) (t : TypeId) (key : AVal) : List AEnt → Option (Option AEnt)
  | [] => some none
  | e :: es => match aequal T 20 t key e.key with
    | some true => some (some e)
    | some false => findK T t key es
    | none => none

/-- a map's entries -/
def entsOf (m : AMem) : AVal → Option (List AEnt)
  | .nilm => some []
  | .map id => match m.get id with
    | some (.map es _) => some es
    | _ => none
  | _ => none

def alookup (T : Tab) (t : TypeId) (x key : AVal) (ok : Bool) (m : AMem) (k : AVal → Option β) : Option β :=
  match T.und t with
  | some (.map kt et) => bif keyFits T kt key then
      match entsOf m x with
      | some es => match findK T kt key es with
        | some (some e) => k (bif ok then .tup [e.val, .bool true] else e.val)
        | some none => match T.zero et with
          | some z => k (bif ok then .tup [z, .bool false] else z)
          | none => none
        | none => none
      | none => none
    else none
  | _ => none

/-- the entries with the key's value turned -/
def putEntK (T : Tab) (t : TypeId) (key val : AVal) : List AEnt → (List AEnt → Option β) → Option β → Option β
  | [], _, miss => miss
  | e :: es, hit, miss => match aequal T 20 t key e.key with
    | some true => bif plainEq e.key key then hit (⟨key, val, e.born⟩ :: es) else none
    | some false => putEntK T t key val es (fun r => hit (e :: r)) miss
    | none => none

def aupdate (T : Tab) (t : TypeId) (x key val : AVal) (m : AMem) (k : AMem → Option β) : Option β :=
  match T.und t, x with
  | some (.map kt _), .map id => bif keyFits T kt key then
      match m.get id with
      | some (.map es c) => putEntK T kt key val es (fun es' => setBlkK m id (.map es' c) k)
          (appK es [⟨key, val, c⟩] fun es' => natK (c + 1) fun c' => setBlkK m id (.map es' c') k)
      | _ => none
    else none
  | _, _ => none

def amapEntry (T : Tab) (t : TypeId) (x key : AVal) (m : AMem) (k : AVal → AMem → Option β) : Option β :=
  match T.und t, x with
  | some (.map kt et), .map id => bif keyFits T kt key then
      match m.get id with
      | some (.map es c) => match findK T kt key es with
        | some (some e) => bif plainEq e.key key then k (.tup [e.val, .int .i64 (.ofNat e.born)]) m else none
        | some none => match T.zero et with
          | some z => appK es [⟨key, z, c⟩] fun es' => natK (c + 1) fun c' => setBlkK m id (.map es' c') fun m' => k (.tup [z, .int .i64 (.ofNat c)]) m'
          | none => none
        | none => none
      | _ => none
    else none
  | _, _ => none

def putBornK (born : Nat) (val : AVal) : List AEnt → (List AEnt → Option β) → Option β
  | [], _ => none
  | e :: es, k => bif Nat.beq e.born born then k (⟨e.key, val, e.born⟩ :: es) else putBornK born val es fun r => k (e :: r)

def aentryStore (x stamp val : AVal) (m : AMem) (k : AMem → Option β) : Option β :=
  match x, stamp with
  | .map id, .int _ (.ofNat born) => match m.get id with
    | some (.map es c) => putBornK born val es fun es' => setBlkK m id (.map es' c) k
    | _ => none
  | _, _ => none

def delEntK (T : Tab) (t : TypeId) (key : AVal) : List AEnt → (List AEnt → Option β) → Option β
  | [], k => k []
  | e :: es, k => match aequal T 20 t key e.key with
    | some true => k es
    | some false => delEntK T t key es fun r => k (e :: r)
    | none => none

def arange (T : Tab) (t : TypeId) (x : AVal) (m : AMem) (k : AVal → AMem → Option β) : Option β :=
  match T.und t, x with
  | some .string, .str s => newBlkK m (.siter s 0) fun id m' => k (.ptr id 0) m'
  | some (.map _ _), .nilm => newBlkK m (.miter none 0 [] 0) fun id m' => k (.ptr id 0) m'
  | some (.map _ _), .map id => match m.get id with
    | some (.map _ c) => newBlkK m (.miter (some id) c [] c) fun i m' => k (.ptr i 0) m'
    | _ => none
  | _, _ => none

def hasNat (n : Nat) : List Nat → Bool
  | [] => false
  | a :: l => bif Nat.beq a n then true else hasNat n l

/-- the next rune of a string: ASCII alone; the end of a nil map -/
def anext (it : AVal) (isString : Bool) (m : AMem) (k : AVal → AMem → Option β) : Option β :=
  match it with
  | .ptr r 0 => match m.get r, isString with
    | some (.siter s pos), true => match s[pos]? with
      | none => k (.tup [.bool false]) m
      | some c => bif Nat.blt c 128 then natK (pos + 1) fun p => setBlkK m r (.siter s p) fun m' => k (.tup [.bool true, .int .i64 (.ofNat pos), .int .i32 (.ofNat c)]) m' else none
    | _, _ => none
  | _ => none

def aentryAt (id born last : Nat) (m : AMem) (k : AVal → Option β) : Option β :=
  match m.get id with
  | some (.map es c) => bif Nat.beq c last then
      (match es.find? fun e => Nat.beq e.born born with
      | some e => k (.tup [e.key, e.val])
      | none => none) else none
  | _ => none

def aentry (it : AVal) (m : AMem) (k : AVal → Option β) : Option β :=
  match it with
  | .ptr r 0 => match m.get r with
    | some (.miter (some id) _ seen last) => match seen.getLast? with
      | some born => aentryAt id born last m k
      | none => none
    | some (.cur id _ born last) => aentryAt id born last m k
    | _ => none
  | _ => none

/-! ### append, copy and their kin -/
/-- the cells that append and copy take from their second argument: so many elements -/
def srcK (T : Tab) (e : TypeId) (m : AMem) (x : AVal) (k : Nat → List AVal → Option β) : Option β :=
  match x with
  | .nils => k 0 []
  | .esl _ => k 0 []
  | .str l => bif isU8 T e then bytesK l fun cs => lenK l 0 fun n => k n cs else none
  | .slice id off len _ => match T.size e with
    | some s => match m.cells id off (len * s) with
      | some cs => k len cs
      | none => none
    | none => none
  | _ => none

/-- the row gets a group of its own, if it has none -/
def regroupK (m : AMem) (id : Nat) (e : TypeId) (grp : Option Nat) (gb fz : Nat) (st ex : Bool) (n : Nat) (cs : Tr AVal) (k : Nat → AMem → Option β) : Option β := match grp with
  | some g => k g m
  | none => match m with
    | ⟨b, nx, gs⟩ => match gs.get id with
      | none => gs.setK 40 id (some [id]) fun gs' => b.setK 40 id (some (.row e (some id) gb fz st ex n cs)) fun b' => k id ⟨b', nx, gs'⟩
      | some _ => none

/-- a new row of a group -/
def joinK (m : AMem) (g : Nat) (o : ABlk) (k : Nat → AMem → Option β) : Option β := match m with
  | ⟨b, nx, gs⟩ => match gs.get g with
    | some l => gs.setK 40 g (some (nx :: l)) fun gs' => newBlkK ⟨b, nx, gs'⟩ o k
    | none => none

/-- may a slice of so many elements be made anew? -/
def growOk (T : Tab) (e : TypeId) (need : Nat) : Bool := match T.ti e, T.zero e with
  | some i, some z => Nat.ble i.bytes 4096 && Nat.beq z.cells.length i.size && Nat.ble need 1000000
  | _, _ => false

def aappend (T : Tab) (st : TypeId) (s x : AVal) (m : AMem) (k : AVal → AMem → Option β) : Option β :=
  match T.und st with
  | some (.slice e) => match T.size e with
    | some (sz + 1) => srcK T e m x fun n new =>
      match n with
      | 0 => (match s with
        | .nils => k s m
        | .slice .. => k s m
        | .esl _ => k s m
        | _ => none)
      | _ + 1 => match s with
        | .nils => bif growOk T e n then fillK new 0 .lf fun t c => newBlkK m (.row e none 0 0 false false c t) fun id m' => natK n fun n => k (.slice id 0 n (.u 0)) m' else none
        | .slice id off len (.k c) => bif Nat.ble (len + n) c then
            storeK m id (off + len * (sz + 1)) new fun m' => natK (len + n) fun l => k (.slice id off l (.k c)) m'
          else bif growOk T e (len + n) then (match m.cells id off (len * (sz + 1)) with
            | some old => appK old new fun all => fillK all 0 .lf fun t cnt => newBlkK m (.row e none 0 0 false false cnt t) fun id m' => natK (len + n) fun l => k (.slice id 0 l (.u 0)) m'
            | none => none) else none
        | .slice id off len (.u eo) => match m.get id with
          | some (.row e0 g gb fz st ex cnt cs) => match m.cells id off (len * (sz + 1)) with
            | some old => bif Nat.beq e0 e && Nat.ble fz cnt && Nat.beq (off + len * (sz + 1)) cnt && Nat.beq off (eo * (sz + 1)) && allSingle new && growOk T e (len + n) then
                regroupK m id e g gb fz st ex cnt cs fun g' m1 => strikeK m1 id (some g') (gb + cnt + 1) fun m2 =>
                  appK old new fun all => fillK all 0 .lf fun t cnt' =>
                    joinK m2 g' (.row e (some g') (gb + off) (fz - off) st false cnt' t) fun id' m' => natK (len + n) fun l => k (.slice id' 0 l (.u 0)) m'
              else none
            | none => none
          | _ => none
        | _ => none
    | _ => none
  | _ => none

def acopy (T : Tab) (dt : TypeId) (dst src : AVal) (m : AMem) (k : AVal → AMem → Option β) : Option β :=
  match T.und dt with
  | some (.slice e) => match T.size e with
    | some s => srcK T e m src fun n cs => match dst with
      | .nils => k (.int .i64 0) m
      | .esl _ => k (.int .i64 0) m
      | .slice id off len _ => natK (min n len) fun c => takeK (c * s) cs fun cs' => storeK m id off cs' fun m' => k (.int .i64 (.ofNat c)) m'
      | _ => none
    | none => none
  | _ => none

def alen (T : Tab) (t : TypeId) (x : AVal) (m : AMem) (k : AVal → Option β) : Option β :=
  match T.und t, x with
  | some .string, .str l => lenK l 0 fun n => k (.int .i64 (.ofNat n))
  | some (.array n _), _ => natK n fun n => k (.int .i64 (.ofNat n))
  | some (.slice _), .slice _ _ n _ => k (.int .i64 (.ofNat n))
  | some (.slice _), .nils => k (.int .i64 (.ofNat 0))
  | some (.slice _), .esl _ => k (.int .i64 (.ofNat 0))
  | some (.map _ _), .nilm => k (.int .i64 (.ofNat 0))
  | some (.map _ _), .map id => match m.get id with
    | some (.map es _) => lenK es 0 fun n => k (.int .i64 (.ofNat n))
    | _ => none
  | _, _ => none

def abuiltin (T : Tab) (b : Builtin) (ats : Array TypeId) (args : List AVal) (m : AMem) (k : AVal → AMem → Option β) : Option β :=
  match b, ats.toList, args with
  | .append, t :: t2 :: _, [s, x] => match T.und t2 with
    | some (.int _) => none
    | some _ => aappend T t s x m k
    | none => none
  | .copy, t :: _, [d, s] => acopy T t d s m k
  | .len, t :: _, [x] => alen T t x m fun v => k v m
  | .cap, t :: _, [.slice _ _ _ (.k c)] => match T.und t with
    | some (.slice _) => k (.int .i64 (.ofNat c)) m
    | _ => none
  | .delete, t :: _, [x, key] => match T.und t, x with
    | some (.map kt _), .map id => bif keyFits T kt key then
        (match m.get id with
        | some (.map es c) => delEntK T kt key es fun es' => setBlkK m id (.map es' c) fun m' => k (.tup []) m'
        | _ => none) else none
    | some (.map kt _), .nilm => bif keyFits T kt key then k (.tup []) m else none
    | _, _ => none
  | .max, _, [.int kd a, .int _ b] => k (.int kd (bif intLe b a then a else b)) m
  | .min, _, [.int kd a, .int _ b] => k (.int kd (bif intLe a b then a else b)) m
  | .unsafeSliceData, _, [.slice id off (_ + 1) _] => k (.ptr id off) m
  | .unsafeSliceData, _, [.nils] => k .nilp m
  | .unsafeString, _ :: _, [.nilp, .int _ (.ofNat 0)] => k (.str []) m
  | .unsafeString, t :: _, [.ptr id off, .int _ (.ofNat (n + 1))] => match T.und t, m.get id with
    | some (.pointer u), some (.row e g gb fz false ex cnt cs) => bif isU8 T u && Nat.beq u e && Nat.ble (n + 1) 16777216 then
        match m.cells id off (n + 1) with
        | some l => unbytesK l fun s => strikeK m id g 0 fun m' => natK (max fz (off + (n + 1))) fun fz' => setBlkK m' id (.row e g gb fz' false ex cnt cs) fun m' => k (.str s) m'
        | none => none
      else none
    | _, _ => none
  | _, _, _ => none

/-- places of the parts of a struct or an array -/
def fillPartsK (place : Nat → Option (Nat × Nat)) (ev : Operand → Option AVal) : List (Nat × Operand) → Tr AVal → (Tr AVal → Option β) → Option β
  | [], t, k => k t
  | (i, x) :: r, t, k => match place i, ev x with
    | some (off, sz), some v => bif Nat.beq v.cells.length sz && v.live then fillK v.cells off t fun t' _ => fillPartsK place ev r t' k else none
    | _, _ => none

def trListK (t : Tr AVal) : Nat → Nat → (List AVal → Option β) → Option β
  | 0, _, k => k []
  | n + 1, i, k => match t.get i with
    | some v => trListK t n (i + 1) fun l => k (v :: l)
    | none => none

def structPlace (T : Tab) (fs : List Field) (i : Nat) : Option (Nat × Nat) := match fs[i]? with
  | some f => match T.size f.type with
    | some s => some (f.offset, s)
    | none => none
  | none => none

def fitsIn (place : Nat → Option (Nat × Nat)) (n : Nat) : List (Nat × Operand) → Bool
  | [] => true
  | (i, _) :: r => match place i with
    | some (off, sz) => Nat.ble (off + sz) n && fitsIn place n r
    | none => false

def abuild (T : Tab) (ev : Operand → Option AVal) (t : TypeId) (ps : List (Nat × Operand)) (k : AVal → Option β) : Option β :=
  match T.zero t, T.und t with
  | some z, some (.struct fs) => fillK z.cells 0 .lf fun cs n => bif fitsIn (structPlace T fs.toList) n ps && fs.toList.all (fun f => (T.size f.type).isSome) then
      fillPartsK (structPlace T fs.toList) ev ps cs fun cs' => trListK cs' n 0 fun l => k (.agg l) else none
  | some z, some (.array _ e) => match T.size e with
    | some s => fillK z.cells 0 .lf fun cs n => bif fitsIn (fun i => some (i * s, s)) n ps then
        fillPartsK (fun i => some (i * s, s)) ev ps cs fun cs' => trListK cs' n 0 fun l => k (.agg l) else none
    | none => none
  | _, _ => none

/-- n times the same cells -/
def repK (z : List AVal) : Nat → Tr AVal → Nat → (Tr AVal → Nat → Option β) → Option β
  | 0, t, i, k => k t i
  | n + 1, t, i, k => fillK z i t fun t' i' => repK z n t' i' k

def abuildSlice (T : Tab) (ev : Operand → Option AVal) (t : TypeId) (len : Nat) (ps : List (Nat × Operand)) (m : AMem) (k : AVal → AMem → Option β) : Option β :=
  match T.und t with
  | some (.slice e) => match T.size e, T.zero e with
    | some s, some z => bif Nat.ble (len * s) 65536 && Nat.beq z.cells.length s && fitsIn (fun i => some (i * s, s)) (len * s) ps && !Nat.beq s 0 then
        repK z.cells len .lf 0 fun cs _ => fillPartsK (fun i => some (i * s, s)) ev ps cs fun cs' =>
          natK (len * s) fun n => newBlkK m (.row e none 0 0 false true n cs') fun id m' => k (.slice id 0 len (.k len)) m'
      else none
    | _, _ => none
  | _ => none

def amakeSlice (T : Tab) (t : TypeId) (l c : AVal) (m : AMem) (k : AVal → AMem → Option β) : Option β :=
  match T.und t, l, c with
  | some (.slice e), .int _ (.ofNat len), .int _ (.ofNat cap) => match T.ti e, T.zero e with
    | some i, some z => bif Nat.ble len cap && Nat.ble cap 65536 && Nat.ble i.bytes 4096 && Nat.beq z.cells.length i.size && !Nat.beq i.size 0 then
        repK z.cells cap .lf 0 fun cs n => newBlkK m (.row e none 0 0 false true n cs) fun id m' => k (.slice id 0 len (.k cap)) m'
      else none
    | _, _ => none
  | _, _, _ => none

def evs (ev : Operand → Option AVal) : List Operand → Option (List AVal)
  | [] => some []
  | x :: r => match ev x, evs ev r with
    | some v, some l => some (v :: l)
    | _, _ => none

def evOpt (ev : Operand → Option AVal) : Option Operand → Option (Option AVal)
  | none => some none
  | some x => match ev x with
    | some v => some (some v)
    | none => none

def atypeAssert (T : Tab) (x : AVal) (asserted : TypeId) (ok : Bool) (k : AVal → Option β) : Option β :=
  match T.und asserted, x with
  | some (.interface _), .nili => bif ok then (match T.zero asserted with
    | some z => k (.tup [z, .bool false])
    | none => none) else none
  | some (.interface want), .iface t v => match T.ti t with
    | some i => match Instr.missingMethod want i.methods with
      | none => k (bif ok then .tup [.iface t v, .bool true] else .iface t v)
      | some _ => bif ok then (match T.zero asserted with
        | some z => k (.tup [z, .bool false])
        | none => none) else none
    | none => none
  | some _, .nili => bif ok then (match T.zero asserted with
    | some z => k (.tup [z, .bool false])
    | none => none) else none
  | some _, .iface t v => bif Nat.beq t asserted then k (bif ok then .tup [v, .bool true] else v) else
      bif ok then (match T.zero asserted with
        | some z => k (.tup [z, .bool false])
        | none => none) else none
  | _, _ => none

/-- an operation that calls nothing -/
def aplain (T : Tab) (ev : Operand → Option AVal) (o : Op) (m : AMem) (k : AVal → AMem → Option β) : Option β :=
  let u (m' : AMem) : Option β := k aundef m'
  match o with
  | .move x => match ev x with | some v => k v m | none => none
  | .assign x => match ev x with | some v => k v m | none => none
  | .pick c a b => match ev c with
    | some (.bool t) => (match ev (bif t then a else b) with | some v => k v m | none => none)
    | _ => none
  | .alloc e => match T.zero e with
    | some z => newRowK m e z.cells fun id m' => k (.ptr id 0) m'
    | none => none
  | .box e x => match ev x with
    | some v => bif v.live then newRowK m e v.cells fun id m' => k (.ptr id 0) m' else none
    | none => none
  | .build t ps => abuild T ev t ps.toList fun v => k v m
  | .buildSlice t len ps => abuildSlice T ev t len ps.toList m k
  | .insert t mp key x | .mapUpdate t mp key x => match ev mp, ev key, ev x with
    | some a, some b, some c => aupdate T t a b c m u
    | _, _, _ => none
  | .load t a => match ev a with
    | some (.ptr id off) => (match loadVar T m t id off with | some v => k v m | none => none)
    | _ => none
  | .store t a x => match ev a, ev x with
    | some (.ptr id off), some v => storeVarK T m t id off v u
    | _, _ => none
  | .nilCheck x => match ev x with
    | some (.ptr i o) => k (.ptr i o) m
    | some (.iface t v) => k (.iface t v) m
    | some (.func (.func f) a b) => k (.func (.func f) a b) m
    | some (.yld i) => k (.yld i) m
    | _ => none
  | .binOp op t x y _ => match ev x, ev y with
    | some a, some b => abin T op t ((x matches .const _) || (y matches .const _)) a b fun v => k v m
    | _, _ => none
  | .unOp op _ x => match op, ev x with
    | .not, some (.bool b) => k (.bool (!b)) m
    | .neg, some (.int kd n) => intRes kd (0 - n) fun v => k v m
    | .xor, some (.int kd n) => intRes kd (BitVec.ofInt kd.bits (if kd.signed then -1 else kd.max) ^^^ BitVec.ofInt kd.bits n).toNat fun v => k v m
    | _, _ => none
  | .convert s d x => match ev x with
    | some v => aconv T s d v m k
    | none => none
  | .makeInterface t x => match T.und t, ev x with
    | some (.interface _), _ => none
    | some _, some v => k (.iface t v) m
    | _, _ => none
  | .makeFunc fn a b => match fn, evs ev a.toList, evs ev b.toList with
    | .yield _, _, _ => none
    | _, some l, some r => k (.func fn l r) m
    | _, _, _ => none
  | .makeMap _ none => newBlkK m (.map [] 0) fun id m' => k (.map id) m'
  | .makeMap t (some r) => match T.und t, ev r with
    | some (.map _ _), some (.int _ _) => newBlkK m (.map [] 0) fun id m' => k (.map id) m'
    | _, _ => none
  | .makeSlice t l c => match ev l, ev c with
    | some a, some b => amakeSlice T t a b m k
    | _, _ => none
  | .slice t x lo hi mx => bif mx.isSome && !hi.isSome then none else match ev x, evOpt ev lo, evOpt ev hi, evOpt ev mx with
    | some a, some l, some h, some c => aslice T t a l h c fun v => k v m
    | _, _, _, _ => none
  | .fieldAddr t x f => match T.und t, ev x with
    | some (.struct fs), some (.ptr id off) => (match fs.toList[f]? with
      | some fd => match T.size fd.type with
        | some (_ + 1) => natK (off + fd.offset) fun o => k (.ptr id o) m
        | _ => none
      | none => none)
    | _, _ => none
  | .field t x f => match T.und t, ev x with
    | some (.struct fs), some (.agg cs) => (match fs.toList[f]? with
      | some fd => match part T fd.type cs fd.offset with
        | some v => k v m
        | none => none
      | none => none)
    | _, _ => none
  | .indexAddr t x i => match ev x, ev i with
    | some a, some b => aindexAddr T t a b fun v => k v m
    | _, _ => none
  | .index t x i => match ev x, ev i with
    | some a, some b => aindex T t a b fun v => k v m
    | _, _ => none
  | .lookup t x i ok => match ev x, ev i with
    | some a, some b => alookup T t a b ok m fun v => k v m
    | _, _ => none
  | .mapEntry t x i => match ev x, ev i with
    | some a, some b => amapEntry T t a b m k
    | _, _ => none
  | .entryStore _ mp st x => match ev mp, ev st, ev x with
    | some a, some b, some c => aentryStore a b c m u
    | _, _, _ => none
  | .range t x => match ev x with
    | some a => arange T t a m k
    | none => none
  | .next x s => match ev x with
    | some a => anext a s m k
    | none => none
  | .entry x => match ev x with
    | some a => aentry a m fun v => k v m
    | none => none
  | .typeAssert x _ t ok => match ev x with
    | some a => atypeAssert T a t ok fun v => k v m
    | none => none
  | .extract x i => match ev x with
    | some (.tup l) => (match l[i]? with
      | some v => k v m
      | none => none)
    | _ => none
  | .call { callee := .builtin b, args, argTypes } => match evs ev args.toList with
    | some l => abuiltin T b argTypes l m k
    | none => none
  | _ => none

end Go.Proofs.YtplgnjpeikamhaaGreatDoor.Xec

namespace Go.Proofs.YtplgnjpeikamhaaGreatDoor.Xec
variable {β : Type}

/-! ### The plan of a region whose order is drawn -/
def depMask (o : Oper) : Nat := o.after.toList.foldl (fun m e => bif Region.binds .any e then Nat.lor m (2 ^ e.on) else m) 0

inductive Kind where
  | pure | alloc | act
  deriving DecidableEq

/-- how an operation is met in a drawn region -/
def kindOf (T : Tab) : Op → Kind
  | .move _ | .assign _ | .pick .. | .load .. | .nilCheck _ | .binOp .. | .unOp .. | .fieldAddr .. | .field .. | .indexAddr .. | .index .. | .slice .. | .lookup .. | .typeAssert .. | .extract .. | .makeInterface .. | .makeFunc .. | .build .. => .pure
  | .call { callee := .builtin .len, .. } => .pure
  | .call { callee := .builtin .cap, .. } => .pure
  | .call { callee := .builtin .max, .. } => .pure
  | .call { callee := .builtin .min, .. } => .pure
  | .convert _ d _ => match T.und d with
    | some (.int _) => .pure
    | _ => .act
  | .alloc _ | .box .. | .makeMap .. | .buildSlice .. => .alloc
  | _ => .act

structure PSt where
  i : Nat
  o : Oper
  kd : Kind
  /-- those that surely have been carried out when this one is -/
  bef : Nat

def sees (ops : List Oper) (d : Nat) (o : Oper) : Bool :=
  (o.op.operands.toList.any fun | .tmp t => Nat.beq t d | _ => false) ||
  match o.guard with
  | some (j, _) => match ops[j]? with
    | some oj => match oj.dst with
      | some t => Nat.beq t d
      | none => false
    | none => false
  | none => false

/-- (number, operation, what it waits for, what stands before it) -/
def rowsOf : List Oper → Nat → List (Nat × Oper × Nat × Nat) → List (Nat × Oper × Nat × Nat)
  | [], _, acc => acc.reverse
  | o :: r, i, acc => rowsOf r (i + 1) ((i, o, depMask o, acc.foldl (fun m x => bif Nat.testBit (depMask o) x.1 then Nat.lor m x.2.2.2 else m) (depMask o)) :: acc)

/-- may number i be taken first? nobody looks at what it writes, or writes it too, but those that wait for it -/
def lonely (ops : List Oper) (rows : List (Nat × Oper × Nat × Nat)) (i : Nat) (o : Oper) : Bool :=
  match o.dst with
  | none => true
  | some d => rows.all fun (j, oj, _, bj) => Nat.beq i j || ((!sees ops d oj || Nat.testBit bj i) && (match oj.dst with | some e => !Nat.beq d e || Nat.testBit bj i | none => true))

/-- does what i writes touch nothing of those that are done and that need not be done ahead of it? -/
def quiet (ops : List Oper) (rows : List (Nat × Oper × Nat × Nat)) (done i : Nat) (o : Oper) (b : Nat) : Bool :=
  match o.dst with
  | none => true
  | some d => rows.all fun (j, oj, _, _) => !Nat.testBit done j || Nat.testBit b j || (!sees ops d oj && (match oj.dst with | some e => !Nat.beq d e | none => true))

def planGo (T : Tab) (ops : List Oper) (rows : List (Nat × Oper × Nat × Nat)) : Nat → Nat → Option (List PSt)
  | 0, done => bif rows.all (fun x => Nat.testBit done x.1) then some [] else none
  | f + 1, done =>
    let ready := rows.filter fun (i, _, dm, _) => !Nat.testBit done i && Nat.beq (Nat.land dm done) dm
    match ready.find? fun (i, o, _, _) => kindOf T o.op != .act && lonely ops rows i o with
    | some (i, o, _, b) => match planGo T ops rows f (Nat.lor done (2 ^ i)) with
      | some l => some (⟨i, o, kindOf T o.op, b⟩ :: l)
      | none => none
    | none => match ready with
      | [(i, o, _, b)] => bif quiet ops rows done i o b then (match planGo T ops rows f (Nat.lor done (2 ^ i)) with
        | some l => some (⟨i, o, .act, b⟩ :: l)
        | none => none) else none
      | _ => none

def planOf (T : Tab) (ops : Array Oper) : Option (List PSt) :=
  let rows := rowsOf ops.toList 0 []
  planGo T ops.toList rows ops.size 0

/-! ### The machine -/
structure APan where
  v : AVal
  recovered : Bool

inductive AMode where
  | run
  | returning
  | pan (chain : List APan)

inductive AItem where
  | code (c : Code)
  | inBlock (id : Nat)
  | inLoop (body : Code)
  | inScope (body : Code)
  | endRangeFunc (id : Nat)
  | beginRound
  /-- here a round of a loop over a map's entries stops -/
  | stopLoop (body : Code)

inductive AOut where
  | ret (v : AVal)
  | pan (chain : List APan)
  | atLoop (tm : Tr AVal) (ds : List ADef) (b : Code) (k : List AItem)

structure ARes where
  out : AOut
  cm : AMode
  mem : AMem

structure Ctx where
  fn : Nat
  nt : Nat
  dk : Bool
  rnd : Option Nat

abbrev Run := Ctx → Tr AVal → List AItem → List ADef → AMode → AMode → AMem → Option (List ARes)

def bindL : List ARes → (ARes → Option (List ARes)) → Option (List ARes)
  | [], _ => some []
  | [r], f => f r
  | r :: rs, f => match f r, bindL rs f with
    | some a, some b => some (a ++ b)
    | _, _ => none

def wrapRun (r : Run) : Run := fun c tm todo ds md cm m => r c tm todo ds md cm m

def enter (T : Tab) (run : Run) (f : Nat) (args : List AVal) (dk : Bool) (cm : AMode) (m : AMem) : Option (List ARes) :=
  bif T.kn f then (bif dk then none else match args with | [] => some [⟨.ret (.bool true), cm, m⟩] | _ => none) else
  match T.fn f with
  | some fn => match fn.body with
    | some c => bif Nat.ble args.length fn.ntmps then fillK args 0 .lf fun tm _ => run ⟨f, fn.ntmps, dk, none⟩ tm [.code c] [] .run cm m else none
    | none => none
  | none => none

/-- a function without a Go body: by its number in the table -/
def aextern (n : Nat) (args : List AVal) (k : AVal → Option β) : Option β :=
  match n, args with
  | 1, [.str l, .int .u8 (.ofNat c)] => bif Nat.blt c 256 then idx l c 0 else none
  | 2, [x] => k x
  | _, _ => none
where idx : List Nat → Nat → Nat → Option β
  | [], _, _ => k (.int .i64 (.negSucc 0))
  | b :: l, c, i => bif Nat.beq b c then k (.int .i64 (.ofNat i)) else natK (i + 1) fun i => idx l c i

inductive ACall where
  | enter (f : Nat) (args : List AVal)
  | val (v : AVal)
  | round (id : Nat) (args : List AVal)

def acallFunc (T : Tab) (f : Nat) (args : List AVal) (k : ACall → Option β) : Option β :=
  match T.fn f with
  | some fn => match fn.body with
    | some _ => k (.enter f args)
    | none => match T.ext f with
      | some n => aextern n args fun v => k (.val v)
      | none => none
  | none => none

def acallMethod (T : Tab) (recv : AVal) (name : String) (args : List AVal) (m : AMem) (k : ACall → Option β) : Option β :=
  match recv with
  | .iface t v => match T.ti t with
    | some i => match i.methods.find? (·.name == name) with
      | some mt => match mt.path.toList, mt.func, T.und t with
        | [], some (f, true), some (.pointer _) => acallFunc T f (v :: args) k
        | [], some (f, false), some (.pointer e) => match v with
          | .ptr id off => match loadVar T m e id off with
            | some x => acallFunc T f (x :: args) k
            | none => none
          | _ => none
        | [], some (f, false), some _ => acallFunc T f (v :: args) k
        | _, _, _ => none
      | none => none
    | none => none
  | _ => none

def acallFn (T : Tab) (fn : Fn) (args captured : List AVal) (m : AMem) (k : ACall → Option β) : Option β :=
  match fn with
  | .func f => appK args captured fun l => acallFunc T f l k
  | .method name => match args with
    | r :: rest => acallMethod T r name rest m k
    | [] => none
  | _ => none

def aresolve (T : Tab) (ev : Operand → Option AVal) (c : Call) (m : AMem) (k : ACall → Option β) : Option β :=
  match c.callee, evs ev c.args.toList with
  | .value f, some args => match ev f with
    | some (.func fn first cap) => appK first args fun l => acallFn T fn l cap m k
    | some (.yld id) => k (.round id args)
    | _ => none
  | .invoke r name, some args => match ev r with
    | some v => acallMethod T v name args m k
    | none => none
  | _, _ => none

def aexitTo (id : Nat) : List AItem → Option (List AItem)
  | .inBlock j :: k => bif Nat.beq j id then some k else aexitTo id k
  | _ :: k => aexitTo id k
  | [] => none

def agotoIn (l : Nat) : List AItem → Option (List AItem)
  | .inScope body :: k => match findLabel body l with
    | some rest => some (.code rest :: .inScope body :: k)
    | none => agotoIn l k
  | _ :: k => agotoIn l k
  | [] => none

def adefer (ev : Operand → Option AVal) (c : Call) (k : ADef → Option β) : Option β :=
  match c.callee, evs ev c.args.toList with
  | .value f, some args => match ev f with
    | some (.func fn first cap) => appK first args fun l => k ⟨.fn fn cap, l⟩
    | _ => none
  | .invoke r name, some args => match ev r with
    | some v => k ⟨.fn (.method name) [], v :: args⟩
    | none => none
  | _, _ => none

def putK (nt : Nat) (tm : Tr AVal) (dst : Option Tmp) (v : AVal) (k : Tr AVal → Option β) : Option β :=
  match dst with
  | none => k tm
  | some d => bif Nat.blt d nt then tm.setK 40 d (some v) k else none

def wantedB (ops : List Oper) (tm : Tr AVal) (o : Oper) : Option Bool :=
  match o.guard with
  | none => some true
  | some (j, want) => match ops[j]? with
    | some oj => match oj.dst with
      | some d => match tm.get d with
        | some (.bool b) => some (bif b then want else !want)
        | some .junk => none
        | some (.sym _) => none
        | _ => some false
      | none => some false
    | none => some false

/-- settles a frame's mode behind a deferred call -/
def asettle : AMode → AMode
  | .pan (⟨_, true⟩ :: _) => .returning
  | md => md

def araise (md : AMode) (ch : List APan) : AMode := match md with
  | .pan old => .pan (ch ++ old)
  | _ => .pan ch

/-- what an iterator may still hand out: every entry, if none is new -/
def leftOf (m : AMem) (r : Nat) : Option (Nat × List AEnt) := match m.get r with
  | some (.miter (some id) since seen last) => match m.get id with
    | some (.map es c) =>
      bif !seen.isEmpty && !es.isEmpty && es.all (fun e => Nat.ble last e.born) then none else
      let left := es.filter fun e => !hasNat e.born seen
      bif left.any (fun e => Nat.ble since e.born) then none else some (c, left)
    | _ => none
  | _ => none

def catL (a b : Option (List ARes)) : Option (List ARes) := match a, b with
  | some x, some y => some (x ++ y)
  | _, _ => none

/-- each of them, or the end -/
def eachEnt : List AEnt → (AEnt → Option (List ARes)) → Option (List ARes) → Option (List ARes)
  | [], _, fin => fin
  | [e], f, _ => f e
  | e :: es, f, fin => catL (f e) (eachEnt es f fin)

section
variable (T : Tab) (run : Run) (c : Ctx)

/-- a call, its result in the temporary -/
def callOp (ac : ACall) (m : AMem) (kv : AVal → AMem → Option (List ARes)) (kp : List APan → AMem → Option (List ARes)) : Option (List ARes) :=
  let go (r : Option (List ARes)) : Option (List ARes) := match r with
    | some l => bindL l fun ⟨out, _, m'⟩ => match out with
      | .ret v => kv v m'
      | .pan ch => kp ch m'
      | .atLoop .. => none
    | none => none
  match ac with
  | .val v => kv v m
  | .enter f args => go (enter T run f args false .run m)
  | .round id args => match m.get id with
    | some (.loop l) => bif Nat.beq args.length l.params.length then
        (putAll l.nt l.params args l.tm fun tm => go (run ⟨l.fn, l.nt, false, some id⟩ tm [.code l.assign, .beginRound, .code l.body] [] .run .run m))
      else none
    | _ => none
where
  putAll (nt : Nat) : List Tmp → List AVal → Tr AVal → (Tr AVal → Option (List ARes)) → Option (List ARes)
  | d :: ds, v :: vs, tm, k => bif Nat.blt d nt then tm.setK 40 d (some v) fun tm' => putAll nt ds vs tm' k else none
  | [], [], tm, k => k tm
  | _, _, _, _ => none

/-- one operation -/
def stepOp (o : Oper) (tm : Tr AVal) (ds : List ADef) (cm : AMode) (m : AMem)
    (kv : AVal → List ADef → AMode → AMem → Option (List ARes)) (kp : List APan → AMem → Option (List ARes)) : Option (List ARes) :=
  match o.op with
  | .call cl => match cl.callee with
    | .builtin .recover => match c.rnd, c.dk, cm with
      | none, true, .pan (⟨v, false⟩ :: older) => kv v ds (.pan (⟨v, true⟩ :: older)) m
      | none, _, _ => kv .nili ds cm m
      | _, _, _ => none
    | .builtin _ => aplain T (evalO T.ng tm) o.op m fun v m' => kv v ds cm m'
    | _ => aresolve T (evalO T.ng tm) cl m fun ac => callOp T run ac m (fun v m' => kv v ds cm m') kp
  | .defer cl => match c.rnd with
    | none => adefer (evalO T.ng tm) cl fun d => kv aundef (d :: ds) cm m
    | some _ => none
  | .panic x => match evalO T.ng tm x with
    | some (.iface t v) => kp [⟨.iface t v, false⟩] m
    | _ => none
  | .next x false => match evalO T.ng tm x with
    | some (.ptr r 0) => (match m.get r with
      | some (.miter (some id) since seen _) => (match leftOf m r with
        | some (clock, left) => eachEnt left (fun e => appK seen [e.born] fun seen' => setBlkK m r (.miter (some id) since seen' clock) fun m' => kv (.tup [.bool true, e.key, e.val]) ds cm m')
            (kv (.tup [.bool false]) ds cm m)
        | none => none)
      | some (.miter none _ _ _) => kv (.tup [.bool false]) ds cm m
      | _ => none)
    | _ => none
  | _ => aplain T (evalO T.ng tm) o.op m fun v m' => kv v ds cm m'

/-- the operations of a region in the order of the text -/
def runOps (ops : List Oper) : List Oper → Tr AVal → List ADef → AMode → AMem →
    (Tr AVal → List ADef → AMode → AMem → Option (List ARes)) → (List APan → Tr AVal → List ADef → AMode → AMem → Option (List ARes)) → Option (List ARes)
  | [], tm, ds, cm, m, k, _ => k tm ds cm m
  | o :: r, tm, ds, cm, m, k, kp =>
    match wantedB ops tm o with
    | some true => stepOp T run c o tm ds cm m (fun v ds' cm' m' => putK c.nt tm o.dst v fun tm' => runOps ops r tm' ds' cm' m' k kp) (fun ch m' => kp ch tm ds cm m')
    | some false => putK c.nt tm o.dst aundef fun tm' => runOps ops r tm' ds cm m k kp
    | none => none
end

/-- an operation that was taken ahead of its turn -/
structure Taken where
  i : Nat
  o : Oper
  tm : Tr AVal
  v : AVal
  blk : Option (Nat × ABlk)

def pairK (v : AVal) (m : AMem) : Option (AVal × AMem) := some (v, m)

def valK (v : AVal) (_ : AMem) : Option AVal := some v

def beqV : Nat → AVal → AVal → Bool
  | 0, _, _ => false
  | d + 1, a, b => match a, b with
    | .bool a, .bool b => bif a then b else !b
    | .int k a, .int k' b => decide (k = k') && intEq a b
    | .str a, .str b => natsEq a b
    | .nilp, .nilp => true
    | .nils, .nils => true
    | .nilm, .nilm => true
    | .nilf, .nilf => true
    | .nili, .nili => true
    | .ptr i o, .ptr j p => Nat.beq i j && Nat.beq o p
    | .slice i o l (.k n), .slice j p m (.k n') => Nat.beq i j && Nat.beq o p && Nat.beq l m && Nat.beq n n'
    | .slice i o l (.u n), .slice j p m (.u n') => Nat.beq i j && Nat.beq o p && Nat.beq l m && Nat.beq n n'
    | .esl i, .esl j => Nat.beq i j
    | .map i, .map j => Nat.beq i j
    | .yld i, .yld j => Nat.beq i j
    | .sym i, .sym j => Nat.beq i j
    | .iface t v, .iface u w => Nat.beq t u && beqV d v w
    | .agg a, .agg b => all2 (beqV d) a b
    | .tup a, .tup b => all2 (beqV d) a b
    | .func (.func f) a b, .func (.func g) x y => Nat.beq f g && all2 (beqV d) a x && all2 (beqV d) b y
    | .func (.method f) a b, .func (.method g) x y => f == g && all2 (beqV d) a x && all2 (beqV d) b y
    | _, _ => false
where all2 (f : AVal → AVal → Bool) : List AVal → List AVal → Bool
  | [], [] => true
  | a :: l, b :: r => f a b && all2 f l r
  | _, _ => false

def beqEnts : List AEnt → List AEnt → Bool
  | [], [] => true
  | a :: l, b :: r => beqV 20 a.key b.key && beqV 20 a.val b.val && Nat.beq a.born b.born && beqEnts l r
  | _, _ => false

def optEq : Option Nat → Option Nat → Bool
  | none, none => true
  | some a, some b => Nat.beq a b
  | _, _ => false

def beqBlk : ABlk → ABlk → Bool
  | .row e g gb fz st ex n cs, .row e' g' gb' fz' st' ex' n' cs' => Nat.beq e e' && optEq g g' && Nat.beq gb gb' && Nat.beq fz fz' && (bif st then st' else !st') && (bif ex then ex' else !ex') && Nat.beq n n' &&
      (match readCells cs 0 n, readCells cs' 0 n with
      | some l, some l' => beqV.all2 (beqV 20) l l'
      | _, _ => false)
  | .map es c, .map es' c' => Nat.beq c c' && beqEnts es es'
  | .siter s p, .siter s' p' => natsEq s s' && Nat.beq p p'
  | .miter a b l c, .miter a' b' l' c' => optEq a a' && Nat.beq b b' && natsEq l l' && Nat.beq c c'
  | .cur a b l c, .cur a' b' l' c' => Nat.beq a a' && Nat.beq b b' && Nat.beq l l' && Nat.beq c c'
  | .defs none, .defs none => true
  | .defs (some []), .defs (some []) => true
  | _, _ => false

/-- what a taken operation must still give in memory m -/
def stillOk (T : Tab) (t : Taken) (m : AMem) : Bool := match t.blk with
  | none => match aplain T (evalO T.ng t.tm) t.o.op m valK with
    | some v => beqV 20 v t.v
    | none => false
  | some (id, b) => match m.get id with
    | some b' => beqBlk b b'
    | none => false

def keepOk (T : Tab) (bef : Nat) (m : AMem) : List Taken → (List Taken → Option β) → Option β
  | [], k => k []
  | t :: r, k => bif Nat.testBit bef t.i then keepOk T bef m r k
      else bif stillOk T t m then keepOk T bef m r fun r' => k (t :: r') else none

section
variable (T : Tab) (run : Run) (c : Ctx)
/-- the operations of a region whose order is drawn -/
def runPlan (ops : List Oper) : List PSt → List Taken → Tr AVal → AMode → AMem →
    (Tr AVal → AMode → AMem → Option (List ARes)) → Option (List ARes)
  | [], _, tm, cm, m, k => k tm cm m
  | ⟨i, o, kd, b⟩ :: r, ts, tm, cm, m, k =>
    match wantedB ops tm o with
    | some true => match kd with
      | .pure => match aplain T (evalO T.ng tm) o.op m valK with
        | some v => putK c.nt tm o.dst v fun tm' => runPlan ops r (⟨i, o, tm, v, none⟩ :: ts) tm' cm m k
        | none => none
      | .alloc => match aplain T (evalO T.ng tm) o.op m pairK with
        | some (v, m') => (match m, m' with
          | ⟨_, nx, _⟩, ⟨bs, _, _⟩ => match bs.get nx with
            | some bl => putK c.nt tm o.dst v fun tm' => runPlan ops r (⟨i, o, tm, v, some (nx, bl)⟩ :: ts) tm' cm m' k
            | none => none)
        | none => none
      | .act => stepOp T run c o tm [] cm m (fun v ds' cm' m' => match ds' with
          | [] => keepOk T b m' ts fun ts' => putK c.nt tm o.dst v fun tm' => runPlan ops r ts' tm' cm' m' k
          | _ => none) (fun _ _ => none)
    | some false => putK c.nt tm o.dst aundef fun tm' => runPlan ops r ts tm' cm m k
    | none => none
end

def resultVal (T : Tab) (tm : Tr AVal) (m : AMem) : ResultVar → Option AVal
  | .tmp t => match tm.get t with
    | some v => some v
    | none => some aundef
  | .cell a t => match tm.get a with
    | some (.ptr id off) => loadVar T m t id off
    | _ => none

def resultVals (T : Tab) (tm : Tr AVal) (m : AMem) : List ResultVar → Option (List AVal)
  | [] => some []
  | r :: rs => match resultVal T tm m r, resultVals T tm m rs with
    | some v, some l => some (v :: l)
    | _, _ => none

def tellRes (T : Tab) (fn : Nat) (tm : Tr AVal) (m : AMem) : Option AVal :=
  match T.fn fn with
  | some f => match resultVals T tm m f.results.toList with
    | some [v] => some v
    | some l => some (.tup l)
    | none => none
  | none => none

/-- the end of a round -/
def endRoundK (id : Nat) (jump : Option Code) (m : AMem) (k : AVal → AMem → Option β) : Option β :=
  match m.get id with
  | some (.loop l) => setBlkK m id (.loop ⟨match jump with | none => .ready | some _ => .done, jump, l.fn, l.tm, l.nt, l.params, l.assign, l.body, l.defers⟩) fun m' =>
      k (.bool (match jump with | none => true | some _ => false)) m'
  | _ => none

def leaveK (T : Tab) (run : Run) (c : Ctx) (tm : Tr AVal) (ds : List ADef) (cm : AMode) (m : AMem) (jump : Option Code) : Option (List ARes) :=
  match c.rnd with
  | none => (match jump with
    | none => run c tm [] ds .returning cm m
    | some .ret => run c tm [] ds .returning cm m
    | _ => none)
  | some id => match ds with
    | [] => endRoundK id jump m fun v m' => some [⟨.ret v, cm, m'⟩]
    | _ => none

def sameAt (tm tm' : Tr AVal) (t : Tmp) : Bool := match tm.get t, tm'.get t with
  | some .junk, _ => true
  | some a, some b => beqV 20 a b
  | none, none => true
  | _, _ => false

def upTo : Nat → List Nat
  | 0 => []
  | n + 1 => n :: upTo n

def differ : List Nat → Bool
  | [] => true
  | a :: l => !hasNat a l && differ l

/-- a number is forgotten -/
def delK (m : AMem) (r : Nat) (k : AMem → Option β) : Option β := match m with
  | ⟨b, n, g⟩ => b.setK 40 r none fun b' => k ⟨b', n, g⟩

def junkK : List Tmp → Tr AVal → (Tr AVal → Option β) → Option β
  | [], tm, k => k tm
  | t :: r, tm, k => tm.setK 40 t (some .junk) fun tm' => junkK r tm' k

/-- is memory m' as m, but for iterator r? (as trees) -/
structure RAny where
  it : Operand
  ops : List Oper
  rest : Code
  d : Tmp
  r : Nat
  id : Nat
  since : Nat
  seen : List Nat
  clock : Nat
  left : List AEnt

/-- is this a loop over a map's entries, of which more than one is left? -/
def rangeAny (T : Tab) (tm : Tr AVal) (m : AMem) : Code → Option RAny
  | .seq (.region _ ops false) rest => match ops.toList with
    | ⟨some d, .next x false, _, _, _, none⟩ :: _ => match evalO T.ng tm x with
      | some (.ptr r 0) => match m.get r with
        | some (.miter (some id) since seen _) => match leftOf m r with
          | some (clock, e1 :: e2 :: l) => bif Nat.blt e1.born clock && differ ((e1 :: e2 :: l).map (·.born)) then some ⟨x, ops.toList, rest, d, r, id, since, seen, clock, e1 :: e2 :: l⟩ else none
          | _ => none
        | _ => none
      | _ => none
    | _ => none
  | _ => none

/-- all that the elder tree holds but number r is in the younger -/
def sameTr (r : Nat) : Tr ABlk → Tr ABlk → Nat → Nat → Bool
  | .lf, _, _, _ => true
  | .nd l v x, t, a, b => match t with
    | .lf => (match v with | none => true | some _ => Nat.beq b r) && sameTr r l .lf (2 * a) (b + a) && sameTr r x .lf (2 * a) (b + 2 * a)
    | .nd l' v' x' => (match v, v' with
      | none, _ => true
      | some o, some o' => bif Nat.beq b r then true else beqBlk o o'
      | some _, none => Nat.beq b r) && sameTr r l l' (2 * a) (b + a) && sameTr r x x' (2 * a) (b + 2 * a)

def sameMem (r : Nat) (m m' : AMem) : Bool := match m, m' with
  | ⟨b, _, _⟩, ⟨b', _, _⟩ => sameTr r b b' 1 0

/-- the results that stopped at the loop's head, and the others -/
def splitL (n : Nat) : List ARes → List (Tr AVal × List ADef × AMode × AMem) × List ARes
  | [] => ([], [])
  | ⟨.atLoop tm ds b k, cm, m⟩ :: r => match splitL n r with
    | (a, o) => bif Nat.beq k.length n then ((tm, ds, cm, m) :: a, o) else (a, ⟨.atLoop tm ds b k, cm, m⟩ :: o)
  | x :: r => match splitL n r with
    | (a, b) => (a, x :: b)

/-- surely the same mode of the caller -/
def sameMode : AMode → AMode → Bool
  | .run, .run => true
  | .returning, .returning => true
  | .pan [], .pan [] => true
  | _, _ => false

/-- one round, entry e being next -/
def roundOf (T : Tab) (run : Run) (c : Ctx) (tm : Tr AVal) (k : List AItem) (ds : List ADef) (cm : AMode) (m : AMem) (b : Code) (x : RAny) (e : AEnt) : Option (List ARes) :=
  setBlkK m x.r (.cur x.id x.since e.born x.clock) fun m' =>
    putK c.nt tm (some x.d) (.tup [.bool true, e.key, e.val]) fun tm' =>
      runOps T run c x.ops (x.ops.drop 1) tm' ds cm m' (fun tm' ds' cm' m' => run c tm' (.code x.rest :: .stopLoop b :: k) ds' .run cm' m') (fun ch tm' ds' cm' m' => run c tm' [] ds' (.pan ch) cm' m')

/-- the iterator still stands where it stood -/
def standsAt (x : RAny) (e : AEnt) (m : AMem) : Bool := match m.get x.r with
  | some (.cur a b l c) => Nat.beq a x.id && Nat.beq b x.since && Nat.beq l e.born && Nat.beq c x.clock
  | _ => false

/-- those that leave the loop leave its iterator behind -/
def cleanL (x : RAny) (e : AEnt) : List ARes → Option (List ARes)
  | [] => some []
  | ⟨out, cm, m⟩ :: r => bif standsAt x e m then (delK m x.r fun m' => match cleanL x e r with
      | some l => some (⟨out, cm, m'⟩ :: l)
      | none => none) else none

/-- every entry's round, from the head with its junk: all others' results; none: some round changes what it may not -/
def roundsOf (T : Tab) (run : Run) (c : Ctx) (W : List Tmp) (tm : Tr AVal) (k : List AItem) (cm : AMode) (m : AMem) (b : Code) (x : RAny) : List AEnt → Option (Bool × List ARes)
  | [] => some (true, [])
  | e :: es => match roundOf T run c tm k [] cm m b x e with
    | some l => match splitL k.length l with
      | (hs, os) => bif hs.all (fun (tm', ds', cm', m') => ds'.isEmpty && sameMode cm cm' && W.all (fun t => sameAt tm tm' t) && sameMem x.r m m' && standsAt x e m') then
          (match cleanL x e os, roundsOf T run c W tm k cm m b x es with
          | some os1, some (back, os') => some (back && !hs.isEmpty, os1 ++ os')
          | _, _ => none)
        else none
    | none => none

/-- the temporaries that the first round that comes back has turned -/
def turned (T : Tab) (run : Run) (c : Ctx) (W : List Tmp) (tm : Tr AVal) (k : List AItem) (cm : AMode) (m : AMem) (b : Code) (x : RAny) : List AEnt → List Tmp
  | [] => []
  | e :: es => match roundOf T run c tm k [] cm m b x e with
    | some l => match splitL k.length l with
      | ((tm', _, _, _) :: _, _) => W.filter fun t => !sameAt tm tm' t
      | _ => turned T run c W tm k cm m b x es
    | none => []

def sameIt (T : Tab) (tm : Tr AVal) (x : RAny) : Bool := match evalO T.ng tm x.it with
  | some (.ptr r 0) => Nat.beq r x.r
  | _ => false

/-- a loop over a map's entries, in whatever order they come -/
def loopAny (T : Tab) (run : Run) (c : Ctx) (W : List Tmp) (tm : Tr AVal) (k : List AItem) (cm : AMode) (m : AMem) (b : Code) (x : RAny) : Option (List ARes) :=
  bif sameIt T tm x then (match roundsOf T run c W tm k cm m b x x.left with
    | some (false, os) => some os
    | some (true, os) => match (delK m x.r fun m' =>
        putK c.nt tm (some x.d) (.tup [.bool false]) fun tm' => runOps T run c x.ops (x.ops.drop 1) tm' [] cm m' (fun tm' ds' cm' m' => run c tm' (.code x.rest :: .inLoop b :: k) ds' .run cm' m') (fun ch tm' ds' cm' m' => run c tm' [] ds' (.pan ch) cm' m')) with
      | some l => some (os ++ l)
      | none => none
    | none => none) else none

def loopK (T : Tab) (run : Run) (c : Ctx) (tm : Tr AVal) (k : List AItem) (ds : List ADef) (cm : AMode) (m : AMem) (b : Code) : Option (List ARes) :=
  match rangeAny T tm m b, ds with
  | some x, [] =>
    let W := upTo c.nt
    match junkK (turned T run c W tm k cm m b x x.left) tm fun tm' => loopAny T run c W tm' k cm m b x with
    | some l => some l
    | none => run c tm (.code b :: .inLoop b :: k) ds .run cm m
  | _, _ => run c tm (.code b :: .inLoop b :: k) ds .run cm m

/-- one move of a frame -/
def body (T : Tab) (run : Run) : Run := fun c tm todo ds md cm m =>
  match md with
  | .run => match todo with
    | [] => leaveK T run c tm ds cm m none
    | it :: k => match it with
      | .code cd => match cd with
        | .ret => leaveK T run c tm ds cm m (some .ret)
        | .skip => run c tm k ds md cm m
        | .label _ => run c tm k ds md cm m
        | .seq a b => run c tm (.code a :: .code b :: k) ds md cm m
        | .cond x a b => match evalO T.ng tm x with
          | some (.bool true) => run c tm (.code a :: k) ds md cm m
          | some (.bool false) => run c tm (.code b :: k) ds md cm m
          | _ => none
        | .block id b => run c tm (.code b :: .inBlock id :: k) ds md cm m
        | .loop b => loopK T run c tm k ds cm m b
        | .scope b => run c tm (.code b :: .inScope b :: k) ds md cm m
        | .exit id => match aexitTo id k with
          | some k' => run c tm k' ds md cm m
          | none => leaveK T run c tm ds cm m (some (.exit id))
        | .goto l => match agotoIn l k with
          | some k' => run c tm k' ds md cm m
          | none => leaveK T run c tm ds cm m (some (.goto l))
        | .region _ ops false => runOps T run c ops.toList ops.toList tm ds cm m (fun tm' ds' cm' m' => run c tm' k ds' .run cm' m') (fun ch tm' ds' cm' m' => run c tm' [] ds' (.pan ch) cm' m')
        | .region _ ops true => match planOf T ops with
          | some pl => runPlan T run c ops.toList pl [] tm cm m fun tm' cm' m' => run c tm' k ds .run cm' m'
          | none => none
        | .rangeFunc f ps asg bd => match evalO T.ng tm f with
          | some (.func fn first cap) =>
            let go (defers : Nat) (ds' : List ADef) (m1 : AMem) : Option (List ARes) :=
              newBlkK m1 (.loop ⟨.ready, none, c.fn, tm, c.nt, ps.toList, asg, bd, defers⟩) fun l m2 =>
                appK first [.yld l] fun args => acallFn T fn args cap m2 fun ac =>
                  callOp T run ac m2 (fun _ m3 => run c tm (.endRangeFunc l :: k) ds' .run cm m3) (fun ch m3 => run c tm [] ds' (.pan ch) cm m3)
            match c.rnd with
            | none => newBlkK m (.defs (some [])) fun r m1 => go r (⟨.collected r, []⟩ :: ds) m1
            | some id => match m.get id with
              | some (.loop l) => go l.defers ds m
              | _ => none
          | _ => none
        | .refuse _ => none
      | .inBlock _ => run c tm k ds md cm m
      | .inScope _ => run c tm k ds md cm m
      | .inLoop b => loopK T run c tm k ds cm m b
      | .stopLoop b => some [⟨.atLoop tm ds b k, cm, m⟩]
      | .beginRound => match c.rnd with
        | some id => match m.get id with
          | some (.loop l) => (match l.state with
            | .ready => setBlkK m id (.loop ⟨.busy, l.pending, l.fn, l.tm, l.nt, l.params, l.assign, l.body, l.defers⟩) fun m' => run c tm k ds md cm m'
            | _ => none)
          | _ => none
        | none => none
      | .endRangeFunc id => match m.get id with
        | some (.loop l) => (match l.state with
          | .busy => none
          | _ => setBlkK m id (.loop ⟨.exhausted, l.pending, l.fn, l.tm, l.nt, l.params, l.assign, l.body, l.defers⟩) fun m' =>
              match l.pending with
              | none => run c tm k ds md cm m'
              | some j => run c tm (.code j :: k) ds md cm m')
        | _ => none
  | .returning => match ds with
    | [] => match tellRes T c.fn tm m with
      | some v => some [⟨.ret v, cm, m⟩]
      | none => none
    | d :: ds' => unwindK T run c tm ds' d md cm m
  | .pan ch => match ds with
    | [] => match T.fn c.fn with
      | some _ => some [⟨.pan ch, cm, m⟩]
      | none => none
    | d :: ds' => unwindK T run c tm ds' d md cm m
where
  unwindK (T : Tab) (run : Run) (c : Ctx) (tm : Tr AVal) (ds : List ADef) (d : ADef) (md cm : AMode) (m : AMem) : Option (List ARes) :=
    match d with
    | ⟨.collected r, _⟩ => match m.get r with
      | some (.defs (some l)) => setBlkK m r (.defs none) fun m' => run c tm [] (l ++ ds) md cm m'
      | _ => none
    | ⟨.fn fn cap, args⟩ => acallFn T fn args cap m fun ac => match ac with
      | .enter f as => match enter T run f as true md m with
        | some l => bindL l fun ⟨out, md', m'⟩ => match out with
          | .ret _ => run c tm [] ds (asettle md') cm m'
          | .pan ch => run c tm [] ds (araise md' ch) cm m'
          | .atLoop .. => none
        | none => none
      | .val _ => run c tm [] ds md cm m
      | .round .. => none

noncomputable def runN (T : Tab) (n : Nat) : Run :=
  Nat.rec (motive := fun _ => Run) (fun _ _ _ _ _ _ _ => none) (fun _ r => body T (wrapRun r)) n

/-- the same, for trying -/
def runC (T : Tab) : Nat → Run
  | 0 => fun _ _ _ _ _ _ _ => none
  | n + 1 => body T (runC T n)

end Go.Proofs.YtplgnjpeikamhaaGreatDoor.Xec
