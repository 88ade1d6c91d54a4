/- Part 1 of the proof that the law FnExactOnYes holds of the program: words, the data machine and its soundness, the program's functions as pure functions, and the plain law; no condition is added. -/
import Derived.Calls
import Derived.Laws.AppendOwn
import Derived.Laws.Cells
import Derived.Laws.Entries
import Derived.Laws.Strings
import Derived.Laws.StructEq
import Derived.Laws.IdiomStrings
import Derived.Laws.MakeOwn
import Derived.Laws.Tables
/- A second machine, over data instead of memory: kinds, values, roots, what each operation does, the run of a function's body. Definitions alone. -/
namespace Go.TM
inductive K where
  | int (k : IntKind) | bool | str | list (k : K) | pair (a b : K) | arr (n : Nat) (k : K)
  deriving DecidableEq
@[reducible] def K.T : K → Type
  | .int _ => Int
  | .bool => Bool
  | .str => ByteArray
  | .list k => List k.T
  | .pair a b => a.T × b.T
  | .arr _ k => List k.T
def K.size : K → Nat
  | .pair a b => a.size + b.size
  | .arr n k => n * k.size
  | _ => 1
def K.flat : K → Bool
  | .list _ => false
  | .pair a b => a.flat && b.flat
  | .arr _ k => k.flat
  | _ => true
def K.noArr : K → Bool
  | .arr _ _ => false
  | .pair a b => a.noArr && b.noArr
  | _ => true
inductive IK where
  | int (k : IntKind) | bool | str | ro (k : K) | own (k : K) | pair (a b : IK)
  deriving DecidableEq
@[reducible] def IK.T : IK → Type
  | .int _ => Int
  | .bool => Bool
  | .str => ByteArray
  | .ro k => List k.T
  | .own k => List k.T
  | .pair a b => a.T × b.T
inductive VK where
  | c (ik : IK) (agg : Bool) | arr (n : Nat) (k : K) | box (ik : IK) | abox (n : Nat) (k : K) | peek (k : K)
@[reducible] def VK.T : VK → Type
  | .c ik _ => ik.T
  | .arr _ k => List k.T
  | .box ik => ik.T
  | .abox _ k => List k.T
  | .peek k => k.T
def IK.hasRo : IK → Bool
  | .ro _ => true
  | .pair a b => a.hasRo || b.hasRo
  | _ => false
def VK.noRo : VK → Bool
  | .c ik _ => !ik.hasRo
  | .box ik => !ik.hasRo
  | .arr _ k => k.flat
  | .abox _ _ => true
  | .peek _ => false
inductive PM where
  | val (v : VK) | mut (v : VK) | ptr (a b : IK) | eat (a : IK) | lend (k : K)
def PM.vk : PM → VK
  | .val v => v
  | .mut v => v
  | .ptr a _ => .box a
  | .eat a => .box a
  | .lend k => .c (.own k) false
@[reducible] def PM.T (p : PM) : Type := p.vk.T
def PM.out : PM → List VK
  | .val _ => []
  | .mut v => [v]
  | .ptr _ b => [.box b]
  | .eat _ => []
  | .lend k => [.c (.own k) false]
@[reducible] def VKs : List VK → Type
  | [] => Unit
  | [a] => a.T
  | a :: b :: r => a.T × VKs (b :: r)
@[reducible] def PMs (ps : List PM) : Type := VKs (ps.map PM.vk)
def outs (ps : List PM) : List VK := ps.flatMap PM.out
inductive AV where
  | undef
  | skip
  | int (k : IntKind) (x : Int)
  | bool (b : Bool)
  | str (s : ByteArray)
  | nilS
  | ro (k : K) (xs : List k.T)
  | own (j : Nat)
  | sub (j lo n : Nat)
  | box (i off : Nat)
  | elem (j : Nat) (idx : Int) (off : Nat)
  | roElem (k : K) (x : k.T) (off : Nat)
  | nest (j g : Nat) (idx : Int) (off : Nat)
  | arr (n : Nat) (k : K) (xs : List k.T)
  | agg (cs : List AV)
  | tup (vs : List AV)
  | nilP
  | func (f : FuncId)
inductive Root where
  | box (cs : List AV)
  | list (g : Nat) (k : K) (xs : List k.T)
  | arr (n : Nat) (k : K) (xs : List k.T)
def look {α : Type} : List (Nat × α) → Nat → Option α
  | [], _ => none
  | (i, a) :: r, j => bif Nat.beq i j then some a else look r j
def put {α : Type} : List (Nat × α) → Nat → α → List (Nat × α)
  | [], j, x => [(j, x)]
  | (i, a) :: r, j, x => bif Nat.beq i j then (i, x) :: r else (i, a) :: put r j x
def del {α : Type} : List (Nat × α) → Nat → List (Nat × α)
  | [], _ => []
  | (i, a) :: r, j => bif Nat.beq i j then del r j else (i, a) :: del r j
inductive HM (α : Type) : Type 1 where
  | ret (v : α)
  | get (i : Nat) (k : Root → HM α)
  | put (i : Nat) (r : Root) (k : HM α)
  | del (i : Nat) (k : HM α)
  | new (r : Root) (k : Nat → HM α)
  | lift {β : Type} (o : Option β) (k : β → HM α)
  | ite (b : Bool) (x y : HM α)
  | fail
def HM.run {α ρ : Type} : HM α → Nat → List (Nat × Root) → (α → List (Nat × Root) → Nat → Option ρ) → Option ρ
  | .ret v, n, h, K => K v h n
  | .get i k, n, h, K => match look h i with
    | some r => (k r).run n h K
    | none => none
  | .put i r k, n, h, K => k.run n (TM.put h i r) K
  | .del i k, n, h, K => k.run n (TM.del h i) K
  | .new r k, n, h, K => (k n).run (n + 1) ((n, r) :: h) K
  | .lift o k, n, h, K => o.bind fun x => (k x).run n h K
  | .ite b x y, n, h, K => bif b then x.run n h K else y.run n h K
  | .fail, _, _, _ => none
def HM.runL {α ρ : Type} : HM α → Nat → List (Nat × Root) → List Nat → List Nat → (α → List (Nat × Root) → Nat → List Nat → List Nat → Option ρ) → Option ρ
  | .ret v, n, h, R, W, K => K v h n R W
  | .get i k, n, h, R, W, K => match look h i with
    | some r => (k r).runL n h (i :: R) W K
    | none => none
  | .put i r k, n, h, R, W, K => k.runL n (TM.put h i r) R (i :: W) K
  | .del i k, n, h, R, W, K => k.runL n (TM.del h i) R (i :: W) K
  | .new r k, n, h, R, W, K => (k n).runL (n + 1) ((n, r) :: h) R (n :: W) K
  | .lift o k, n, h, R, W, K => o.bind fun x => (k x).runL n h R W K
  | .ite b x y, n, h, R, W, K => bif b then x.runL n h R W K else y.runL n h R W K
  | .fail, _, _, _, _, _ => none
def idx {α : Type} (xs : List α) (i : Int) : Option α := bif decide (0 ≤ i) then xs[i.toNat]? else none
def byteAt (s : ByteArray) (i : Int) : Option Int := bif decide (0 ≤ i) then (s.data.toList[i.toNat]?).map (fun b => (b.toNat : Int)) else none
def listEq : List UInt8 → List UInt8 → Bool
  | [], [] => true
  | a :: x, b :: y => Nat.beq a.toNat b.toNat && listEq x y
  | _, _ => false
def strEq (a b : ByteArray) : Bool := listEq a.data.toList b.data.toList
def strLess (a b : ByteArray) : Bool := Op.bytesLess a.data.toList b.data.toList
def toBytes (s : ByteArray) : List Int := s.data.toList.map fun b => (b.toNat : Int)
def ofBytes (xs : List Int) : ByteArray := ⟨(xs.map fun x => UInt8.ofNat x.toNat).toArray⟩
def bitsOf (op : BinOp) (k : IntKind) (x y : Int) : Int :=
  let a := BitVec.ofInt k.bits x
  let b := BitVec.ofInt k.bits y
  match op with
  | .and => k.wrap (a &&& b).toNat
  | .or => k.wrap (a ||| b).toNat
  | .xor => k.wrap (a ^^^ b).toNat
  | _ => k.wrap (a &&& ~~~b).toNat
def shlOf (k : IntKind) (x y : Int) : Int := k.wrap (x * 2 ^ (min y.toNat k.bits))
def shrOf (k : IntKind) (x y : Int) : Int := x.fdiv (2 ^ (min y.toNat k.bits))
def expR : (k : K) → k.T → List AV
  | .int k, x => [.int k x]
  | .bool, x => [.bool x]
  | .str, x => [.str x]
  | .list k, x => [.ro k x]
  | .pair a b, x => expR a x.1 ++ expR b x.2
  | .arr n k, x => [.arr n k x]
def expE (j g : Nat) (i : Int) : (off : Nat) → (k : K) → k.T → List AV
  | _, .int k, x => [.int k x]
  | _, .bool, x => [.bool x]
  | _, .str, x => [.str x]
  | off, .list _, _ => [.nest j g i off]
  | off, .pair a b, x => expE j g i off a x.1 ++ expE j g i (off + a.size) b x.2
  | _, .arr n k, x => [.arr n k x]
def setCell : (k : K) → k.T → Nat → AV → Option k.T
  | .int k, _, 0, .int k' y => bif decide (k = k') then some y else none
  | .bool, _, 0, .bool y => some y
  | .str, _, 0, .str y => some y
  | .pair a b, x, off, v =>
    bif Nat.blt off a.size then (match setCell a x.1 off v with | some y => some (y, x.2) | none => none)
    else (match setCell b x.2 (off - a.size) v with | some y => some (x.1, y) | none => none)
  | _, _, _, _ => none
def setCells (k : K) (x : k.T) (off : Nat) : List AV → Option k.T
  | [] => some x
  | v :: r => match setCell k x off v with | some y => setCells k y (off + 1) r | none => none
def getList : (k : K) → k.T → Nat → (e : K) → Option (List e.T)
  | .list k, x, 0, e => if h : k = e then some (h ▸ x) else none
  | .pair a b, x, off, e => bif Nat.blt off a.size then getList a x.1 off e else getList b x.2 (off - a.size) e
  | _, _, _, _ => none
def setList : (k : K) → k.T → Nat → (e : K) → List e.T → Option k.T
  | .list k, _, 0, e, y => if h : e = k then some (h ▸ y) else none
  | .pair a b, x, off, e, y =>
    bif Nat.blt off a.size then (match setList a x.1 off e y with | some z => some (z, x.2) | none => none)
    else (match setList b x.2 (off - a.size) e y with | some z => some (x.1, z) | none => none)
  | _, _, _, _, _ => none
def cellsOf : AV → List AV
  | .agg cs => cs
  | .undef => []
  | .skip => []
  | .tup _ => []
  | .arr .. => []
  | v => [v]
def mkV (agg : Bool) (cs : List AV) : AV := bif agg then .agg cs else match cs with
  | [v] => v
  | _ => .undef
def setRange (cs : List AV) (off : Nat) (vs : List AV) : List AV := cs.take off ++ vs ++ cs.drop (off + vs.length)
def listR {α : Type} (v : AV) (k : K) (c : List k.T → HM α) : HM α := match v with
  | .nilS => c []
  | .ro k' xs => if h : k' = k then c (h ▸ xs) else .fail
  | .own j => .get j fun | .list _ k' xs => if h : k' = k then c (h ▸ xs) else .fail
                         | _ => .fail
  | .sub j lo n => .get j fun | .list _ k' xs => if h : k' = k then c (h ▸ ((xs.drop lo).take n)) else .fail
                              | _ => .fail
  | .nest j g i off => .get j fun | .list g' k' xs => bif Nat.beq g g' then .lift (idx xs i) fun x => (match getList k' x off k with
                                    | some ys => c ys
                                    | none => .fail) else .fail
                                  | _ => .fail
  | _ => .fail
def listO {α : Type} (v : AV) (k : K) (c : List k.T → HM α) : HM α := match v with
  | .nilS => c []
  | .own j => .get j fun | .list _ k' xs => if h : k' = k then .del j (c (h ▸ xs)) else .fail
                         | _ => .fail
  | .sub j 0 n => .get j fun | .list _ k' xs => if h : k' = k then .del j (c (h ▸ (xs.take n))) else .fail
                             | _ => .fail
  | _ => .fail
def impK {α : Type} : (k : K) → List AV → (k.T → List AV → HM α) → HM α
  | .int k, .int k' x :: r, c => bif decide (k = k') then c x r else .fail
  | .bool, .bool x :: r, c => c x r
  | .str, .str x :: r, c => c x r
  | .list k, v :: r, c => listO v k fun xs => c xs r
  | .pair a b, vs, c => impK a vs fun x r => impK b r fun y r' => c (x, y) r'
  | _, _, _ => .fail
def impI {α : Type} : (k : IK) → List AV → (k.T → List AV → HM α) → HM α
  | .int k, .int k' x :: r, c => bif decide (k = k') then c x r else .fail
  | .bool, .bool x :: r, c => c x r
  | .str, .str x :: r, c => c x r
  | .ro k, v :: r, c => listR v k fun xs => c xs r
  | .own k, v :: r, c => listO v k fun xs => c xs r
  | .pair a b, vs, c => impI a vs fun x r => impI b r fun y r' => c (x, y) r'
  | _, _, _ => .fail
def toRo : K → IK
  | .int k => .int k
  | .bool => .bool
  | .str => .str
  | .list k => .ro k
  | .pair a b => .pair (toRo a) (toRo b)
  | .arr _ _ => .bool
def impR {α : Type} : (k : K) → List AV → (k.T → List AV → HM α) → HM α
  | .int k, .int k' x :: r, c => bif decide (k = k') then c x r else .fail
  | .bool, .bool x :: r, c => c x r
  | .str, .str x :: r, c => c x r
  | .list k, v :: r, c => listR v k fun xs => c xs r
  | .pair a b, vs, c => impR a vs fun x r => impR b r fun y r' => c (x, y) r'
  | _, _, _ => .fail
def expI {α : Type} : (k : IK) → k.T → (List AV → HM α) → HM α
  | .int k, x, c => c [.int k x]
  | .bool, x, c => c [.bool x]
  | .str, x, c => c [.str x]
  | .ro k, xs, c => c [.ro k xs]
  | .own k, xs, c => .new (.list 0 k xs) fun j => c [.own j]
  | .pair a b, x, c => expI a x.1 fun l => expI b x.2 fun m => c (l ++ m)
def nilR {α β : Type} (y : β) (c : β → HM α) : List AV → HM α
  | [] => c y
  | _ => .fail
def impV {α : Type} (v : VK) (x : AV) (c : v.T → HM α) : HM α := match v, x, c with
  | .c ik true, .agg cs, c => impI ik cs fun y r => nilR y c r
  | .c ik false, x, c => impI ik [x] fun y r => nilR y c r
  | .box ik, .box q 0, c => .get q fun
    | .box cs => .del q (impI ik cs fun y r => nilR y c r)
    | _ => .fail
  | .arr n k, .arr n' k' xs, c => if h : k' = k then (bif Nat.beq n n' then c (h ▸ xs) else .fail) else .fail
  | .abox n k, .box q 0, c => .get q fun
    | .arr n' k' xs => if h : k' = k then (bif Nat.beq n n' then .del q (c (h ▸ xs)) else .fail) else .fail
    | _ => .fail
  | .peek k, .box q 0, c => .get q fun
    | .box cs => impR k cs fun y r => nilR y c r
    | _ => .fail
  | .peek k, .roElem k' x 0, c => if h : k' = k then c (h ▸ x) else .fail
  | _, _, _ => .fail
def expV {α : Type} : (v : VK) → v.T → (AV → HM α) → HM α
  | .c ik a, x, c => expI ik x fun cs => c (mkV a cs)
  | .box ik, x, c => expI ik x fun cs => .new (.box cs) fun q => c (.box q 0)
  | .arr n k, xs, c => c (.arr n k xs)
  | .abox n k, xs, c => .new (.arr n k xs) fun q => c (.box q 0)
  | .peek k, x, c => c (.roElem k x 0)
def liveL {α : Type} (v : AV) (c : HM α) : HM α := match v with
  | .own j => .get j fun _ => c
  | .sub j _ _ => .get j fun _ => c
  | .nest j _ _ _ => .get j fun _ => c
  | _ => c
def liveI {α : Type} : IK → List AV → (List AV → HM α) → HM α
  | .ro _, v :: r, c => liveL v (c r)
  | .pair a b, vs, c => liveI a vs fun r => liveI b r c
  | _, _ :: r, c => c r
  | _, [], _ => .fail
def dropL {α : Type} (v : AV) (c : HM α) : HM α := match v with
  | .own j => .del j c
  | .sub j _ _ => .del j c
  | .nest j _ _ _ => .del j c
  | _ => c
def dropI {α : Type} : IK → List AV → (List AV → HM α) → HM α
  | .ro _, v :: r, c => dropL v (c r)
  | .pair a b, vs, c => dropI a vs fun r => dropI b r c
  | _, _ :: r, c => c r
  | _, [], _ => .fail
def avOf1 : Value → AV
  | .int k n => .int k n
  | .bool b => .bool b
  | .string s => .str s
  | .slice none 0 0 => .nilS
  | .pointer none => .nilP
  | _ => .undef
def oneC : Value → Bool
  | .agg _ | .tuple _ => false
  | _ => true
def avOf : Value → AV
  | .agg cs => bif cs.toList.all oneC then .agg (cs.toList.map avOf1) else .undef
  | v => avOf1 v
inductive TD where
  | int (k : IntKind) | bool | str | struct (fs : List (Nat × Nat)) | array (n e : Nat) | slice (e : Nat) | ptr (e : Nat) | other
structure TInfo where
  desc : TD
  size : Nat
  bytes : Nat
  zero : List AV
  kind : Option K
structure Con where
  ps : List PM
  rs : List VK
  F : PMs ps → Option (VKs (rs ++ outs ps))
structure Env where
  types : List (Nat × TInfo)
  cons : List (Nat × Con)
def TInfo.agg (i : TInfo) : Bool := match i.desc with
  | .struct _ | .array .. => true
  | _ => false
def fieldOf (E : Env) (t f : Nat) : Option (Nat × TInfo) := match look E.types t with
  | some i => match i.desc with
    | .struct fs => match fs[f]? with
      | some g => (look E.types g.2).map fun j => (g.1, j)
      | none => none
    | _ => none
  | none => none
def elemOf (E : Env) (t : Nat) : Option TInfo := match look E.types t with
  | some i => match i.desc with
    | .slice e => look E.types e
    | .array _ e => look E.types e
    | _ => none
  | none => none
def slElem (E : Env) (t : Nat) : Option (Nat × TInfo) := match look E.types t with
  | some i => match i.desc with
    | .slice e => match look E.types e with
      | some j => some (e, j)
      | none => none
    | _ => none
  | none => none
def slTy (E : Env) (t n : Nat) : Bool := match look E.types t with
  | some i => match i.desc with
    | .slice e => match look E.types e with
      | some j => Nat.beq j.size n
      | none => false
    | _ => false
  | none => false
def arTy (E : Env) (t m n : Nat) (one : Bool) : Bool := match look E.types t with
  | some i => match i.desc with
    | .array m' e => match look E.types e with
      | some j => Nat.beq m m' && Nat.beq j.size n && (!one || !j.agg)
      | none => false
    | _ => false
  | none => false
def stTy (E : Env) (t : Nat) : Bool := match look E.types t with
  | some i => match i.desc with
    | .struct _ => true
    | _ => false
  | none => false
def boolTy (E : Env) (t : Nat) : Bool := match look E.types t with
  | some i => match i.desc with
    | .bool => true
    | _ => false
  | none => false
def strTy (E : Env) (t : Nat) : Bool := match look E.types t with
  | some i => match i.desc with
    | .str => true
    | _ => false
  | none => false
def kindIs (k : IntKind) (k' : IntKind) : Bool := decide (k = k')
def binInt (op : BinOp) (k : IntKind) (x y : Int) : HM AV := match op with
  | .add => .ret (.int k (k.wrap (x + y)))
  | .sub => .ret (.int k (k.wrap (x - y)))
  | .mul => .ret (.int k (k.wrap (x * y)))
  | .quo => .ite (decide (y = 0)) .fail (.ret (.int k (k.wrap (x.tdiv y))))
  | .rem => .ite (decide (y = 0)) .fail (.ret (.int k (x.tmod y)))
  | .and => .ret (.int k (bitsOf .and k x y))
  | .or => .ret (.int k (bitsOf .or k x y))
  | .xor => .ret (.int k (bitsOf .xor k x y))
  | .andNot => .ret (.int k (bitsOf .andNot k x y))
  | .eql => .ret (.bool (decide (x = y)))
  | .neq => .ret (.bool (!decide (x = y)))
  | .lss => .ret (.bool (decide (x < y)))
  | .leq => .ret (.bool (decide (x ≤ y)))
  | .gtr => .ret (.bool (decide (x > y)))
  | .geq => .ret (.bool (decide (x ≥ y)))
  | _ => .fail
def binStr (op : BinOp) (x y : ByteArray) : HM AV := match op with
  | .add => .ite (decide (x.size + y.size ≤ 9223372036854775807)) (.ret (.str (x ++ y))) .fail
  | .eql => .ret (.bool (strEq x y))
  | .neq => .ret (.bool (!strEq x y))
  | .lss => .ret (.bool (strLess x y))
  | .geq => .ret (.bool (!strLess x y))
  | _ => .fail
def eqCells : List AV → List AV → Option Bool
  | [], [] => some true
  | .int k x :: r, .int k' y :: s => bif kindIs k k' then (eqCells r s).map fun b => decide (x = y) && b else none
  | .bool x :: r, .bool y :: s => (eqCells r s).map fun b => (x == y) && b
  | .str x :: r, .str y :: s => (eqCells r s).map fun b => strEq x y && b
  | _, _ => none
def eqFs (E : Env) (p : Nat → List AV → List AV → Bool) : Nat → List (Nat × Nat) → Nat → List AV → List AV → Bool
  | o, [], n, _, _ => Nat.beq o n
  | o, (o', t) :: r, n, x, y => Nat.beq o o' && (match look E.types t with
    | some j => p t (x.take j.size) (y.take j.size) && eqFs E p (o + j.size) r n (x.drop j.size) (y.drop j.size)
    | none => false)
def eqTy (E : Env) : Nat → Nat → List AV → List AV → Bool
  | 0, _, _, _ => false
  | n + 1, t, x, y => match look E.types t with
    | some i => match i.desc with
      | .int k => match x, y with
        | [.int k1 _], [.int k2 _] => kindIs k k1 && kindIs k k2
        | _, _ => false
      | .bool => match x, y with
        | [.bool _], [.bool _] => true
        | _, _ => false
      | .str => match x, y with
        | [.str _], [.str _] => true
        | _, _ => false
      | .struct fs => Nat.beq x.length i.size && Nat.beq y.length i.size && eqFs E (eqTy E n) 0 fs i.size x y
      | _ => false
    | none => false
def semBin (E : Env) (t : Nat) (op : BinOp) (x y : AV) : HM AV := match op, x, y with
  | .shl, .int k x, .int _ y => .ite (decide (y < 0)) .fail (.ret (.int k (shlOf k x y)))
  | .shr, .int k x, .int _ y => .ite (decide (y < 0)) .fail (.ret (.int k (shrOf k x y)))
  | op, .int k x, .int k' y => bif kindIs k k' then binInt op k x y else .fail
  | op, .str x, .str y => binStr op x y
  | .eql, .bool x, .bool y => bif boolTy E t then .ret (.bool (x == y)) else .fail
  | .neq, .bool x, .bool y => bif boolTy E t then .ret (.bool (!(x == y))) else .fail
  | .eql, .agg x, .agg y => bif stTy E t && eqTy E 8 t x y then (match eqCells x y with | some b => .ret (.bool b) | none => .fail) else .fail
  | .neq, .agg x, .agg y => bif stTy E t && eqTy E 8 t x y then (match eqCells x y with | some b => .ret (.bool (!b)) | none => .fail) else .fail
  | _, _, _ => .fail
def semUn (op : UnOp) (x : AV) : HM AV := match op, x with
  | .neg, .int k x => .ret (.int k (k.wrap (0 - x)))
  | .xor, .int k x => .ret (.int k (bitsOf .xor k (if k.signed then -1 else k.max) x))
  | .not, .bool b => .ret (.bool (!b))
  | _, _ => .fail
def lenIn : (k : K) → k.T → Nat → HM AV
  | .list _, x, 0 => .ret (.int .i64 (List.length x))
  | .pair a b, x, off => bif Nat.blt off a.size then lenIn a x.1 off else lenIn b x.2 (off - a.size)
  | _, _, _ => .fail
def lenS : AV → HM AV
  | .nilS => .ret (.int .i64 0)
  | .ro _ xs => .ret (.int .i64 (List.length xs))
  | .own j => .get j fun | .list _ _ xs => .ret (.int .i64 (List.length xs))
                         | _ => .fail
  | .sub _ _ n => .ret (.int .i64 n)
  | .nest j g i off => .get j fun | .list g' k xs => bif Nat.beq g g' then .lift (idx xs i) fun x => lenIn k x off else .fail
                                  | _ => .fail
  | _ => .fail
def lenOf (E : Env) (t : Nat) (x : AV) : HM AV := match look E.types t with
  | some i => match i.desc, x with
    | .str, .str s => .ret (.int .i64 s.size)
    | .array n _, _ => .ret (.int .i64 n)
    | .slice _, x => lenS x
    | _, _ => .fail
  | none => .fail
def fill (size : Nat → Option (Nat × Nat)) (ev : Operand → AV) : List (Nat × Operand) → List AV → Option (List AV)
  | [], cs => some cs
  | (i, x) :: r, cs => match size i with
    | none => none
    | some (off, n) => let vs := cellsOf (ev x)
      bif Nat.beq vs.length n && Nat.blt 0 n && Nat.ble (off + n) cs.length then fill size ev r (setRange cs off vs) else none
def replicateCells (z : List AV) : Nat → List AV
  | 0 => []
  | n + 1 => z ++ replicateCells z n
def impList (k : K) : Nat → List AV → (List k.T → HM AV) → HM AV
  | 0, [], c => c []
  | n + 1, vs, c => impK k vs fun x r => impList k n r fun xs => c (x :: xs)
  | _, _, _ => .fail
def semBuild (E : Env) (ev : Operand → AV) (t : Nat) (parts : List (Nat × Operand)) : HM AV := match look E.types t with
  | some i => match i.desc, i.zero with
    | .struct _, z => match fill (fun f => (fieldOf E t f).map fun (o, j) => (o, j.size)) ev parts z with
      | some cs => .ret (.agg cs)
      | none => .fail
    | .array n e, z => match look E.types e with
      | some j => match j.kind, fill (fun f => some (f * j.size, j.size)) ev parts z with
        | some k, some cs => bif k.flat then impList k n cs fun xs => .ret (.arr n k xs) else .fail
        | _, _ => .fail
      | none => .fail
    | _, _ => .fail
  | none => .fail
def semBuildSlice (E : Env) (ev : Operand → AV) (t n : Nat) (parts : List (Nat × Operand)) : HM AV := match slElem E t with
  | some (_, j) => match j.kind, j.zero with
    | some k, z => bif Nat.beq k.size j.size && Nat.ble (n * j.size) 16777216 && Nat.blt 0 j.size then
        (match fill (fun f => some (f * j.size, j.size)) ev parts (replicateCells z n) with
        | some cs => impList k n cs fun xs => .new (.list 0 k xs) fun q => .ret (.own q)
        | none => .fail) else .fail
    | _, _ => .fail
  | none => .fail
def semBox (E : Env) (t : Nat) (x : AV) : HM AV := match x with
  | .arr n k xs => bif k.flat then .new (.arr n k xs) fun q => .ret (.box q 0) else .fail
  | v => match look E.types t with
    | some i => bif Nat.beq (cellsOf v).length i.size && Nat.blt 0 i.size then .new (.box (cellsOf v)) fun q => .ret (.box q 0) else .fail
    | none => .fail
def semAlloc (E : Env) (t : Nat) : HM AV := match look E.types t with
  | some i => match i.desc, i.zero with
    | .array n e, z => match look E.types e with
      | some j => match j.kind with
        | some k => bif k.flat && Nat.beq k.size 1 then impList k n z fun xs => .new (.arr n k xs) fun q => .ret (.box q 0) else .fail
        | none => .fail
      | none => .fail
    | _, z => .new (.box z) fun q => .ret (.box q 0)
  | none => .fail
def semLoad (E : Env) (t : Nat) (a : AV) : HM AV := match look E.types t with
  | some i => match a with
    | .box q off => .get q fun
      | .box cs => bif Nat.blt 0 i.size && Nat.ble (off + i.size) cs.length then .ret (mkV i.agg ((cs.drop off).take i.size)) else .fail
      | .arr n k xs => bif Nat.beq off 0 && Nat.beq (n * k.size) i.size && i.agg then .ret (.arr n k xs) else .fail
      | _ => .fail
    | .elem j x off => .get j fun
      | .list g k xs => .lift (idx xs x) fun e => bif Nat.blt 0 i.size && Nat.ble (off + i.size) k.size then .ret (mkV i.agg (((expE j g x 0 k e).drop off).take i.size)) else .fail
      | .arr _ k xs => .lift (idx xs x) fun e => bif k.noArr && Nat.blt 0 i.size && Nat.ble (off + i.size) k.size then .ret (mkV i.agg (((expE j 0 x 0 k e).drop off).take i.size)) else .fail
      | _ => .fail
    | .roElem k e off => bif k.noArr && Nat.blt 0 i.size && Nat.ble (off + i.size) k.size then .ret (mkV i.agg (((expR k e).drop off).take i.size)) else .fail
    | _ => .fail
  | none => .fail
def semStore (E : Env) (t : Nat) (a v : AV) : HM AV := match look E.types t with
  | some i => match a with
    | .box q off => .get q fun
      | .box cs => bif Nat.beq (cellsOf v).length i.size && Nat.blt 0 i.size && Nat.ble (off + i.size) cs.length then .put q (.box (setRange cs off (cellsOf v))) (.ret .undef) else .fail
      | .arr n k _ => match v with
        | .arr n' k' ys => bif Nat.beq off 0 && Nat.beq n n' && Nat.beq i.size (n * k.size) && Nat.blt 0 i.size then (if h : k' = k then .put q (.arr n k (h ▸ ys)) (.ret .undef) else .fail) else .fail
        | _ => .fail
      | _ => .fail
    | .elem j x off => .get j fun
      | .list g k xs => .lift (idx xs x) fun e =>
        bif Nat.beq (cellsOf v).length i.size && Nat.blt 0 i.size then
          (bif k.flat then (match setCells k e off (cellsOf v) with
            | some e' => .put j (.list g k (xs.set x.toNat e')) (.ret .undef)
            | none => .fail)
          else bif Nat.beq i.size 1 then (match setCell k e off v with
            | some e' => .put j (.list g k (xs.set x.toNat e')) (.ret .undef)
            | none => .fail)
          else .fail)
        else .fail
      | .arr n k xs => .lift (idx xs x) fun e =>
        bif k.noArr && Nat.beq (cellsOf v).length i.size && Nat.blt 0 i.size then (match setCells k e off (cellsOf v) with
          | some e' => .put j (.arr n k (xs.set x.toNat e')) (.ret .undef)
          | none => .fail) else .fail
      | _ => .fail
    | _ => .fail
  | none => .fail
def semIndexAddr (E : Env) (t : Nat) (x ix : AV) : HM AV := match ix with
  | .int _ i => match x with
    | .ro k xs => bif slTy E t k.size then .lift (idx xs i) fun e => .ret (.roElem k e 0) else .fail
    | .own j => .get j fun
      | .list _ k xs => bif slTy E t k.size then .ite (decide (0 ≤ i) && decide (i < xs.length)) (.ret (.elem j i 0)) .fail else .fail
      | _ => .fail
    | .sub j lo n => .get j fun
      | .list _ k xs => bif slTy E t k.size then .ite (decide (0 ≤ i) && decide (i < n) && decide (lo + i < xs.length)) (.ret (.elem j (lo + i) 0)) .fail else .fail
      | _ => .fail
    | .box q 0 => .get q fun
      | .arr n k _ => bif arTy E t n k.size false then .ite (decide (0 ≤ i) && decide (i < n)) (.ret (.elem q i 0)) .fail else .fail
      | _ => .fail
    | _ => .fail
  | _ => .fail
def semIndex (E : Env) (t : Nat) (x ix : AV) : HM AV := match x, ix with
  | .str s, .int _ i => bif strTy E t then .lift (byteAt s i) fun b => .ret (.int .u8 b) else .fail
  | .arr n k xs, .int _ i => bif arTy E t n k.size true && Nat.beq k.size 1 && k.noArr then .lift (idx xs i) fun e => .ret (mkV false (expR k e)) else .fail
  | _, _ => .fail
def semFieldAddr (E : Env) (t f : Nat) (a : AV) : HM AV := match fieldOf E t f with
  | some (o, j) => bif Nat.beq j.size 0 then .fail else match a with
    | .box q off => .ret (.box q (off + o))
    | .elem q x off => .ret (.elem q x (off + o))
    | .roElem k e off => .ret (.roElem k e (off + o))
    | _ => .fail
  | none => .fail
def semField (E : Env) (t f : Nat) (x : AV) : HM AV := match fieldOf E t f, x with
  | some (o, j), .agg cs => bif Nat.blt 0 j.size && Nat.ble (o + j.size) cs.length then .ret (mkV j.agg ((cs.drop o).take j.size)) else .fail
  | _, _ => .fail
def boundOf (d : Int) : Option AV → Option Int
  | none => some d
  | some (.int _ x) => some x
  | _ => none
def semSlice (E : Env) (t : Nat) (x : AV) (lo hi : Option AV) : HM AV := match x with
  | .str s => bif strTy E t then (match boundOf 0 lo, boundOf s.size hi with
    | some l, some h => .ite (decide (0 ≤ l) && decide (l ≤ h) && decide (h ≤ s.size)) (.ret (.str (s.extract l.toNat h.toNat))) .fail
    | _, _ => .fail) else .fail
  | .ro k xs => bif slTy E t k.size then (match boundOf 0 lo, boundOf xs.length hi with
    | some l, some h => .ite (decide (0 ≤ l) && decide (l ≤ h) && decide (h ≤ xs.length)) (.ret (.ro k ((xs.take h.toNat).drop l.toNat))) .fail
    | _, _ => .fail) else .fail
  | .own j => .get j fun
    | .list _ k xs => bif slTy E t k.size then (match boundOf 0 lo, boundOf xs.length hi with
      | some l, some h => .ite (decide (0 ≤ l) && decide (l ≤ h) && decide (h ≤ xs.length)) (.ret (.sub j l.toNat (h - l).toNat)) .fail
      | _, _ => .fail) else .fail
    | _ => .fail
  | .sub j lo0 n => .get j fun
    | .list _ k xs => bif slTy E t k.size then (match boundOf 0 lo, boundOf n hi with
      | some l, some h => .ite (decide (0 ≤ l) && decide (l ≤ h) && decide (h ≤ n) && decide (lo0 + n ≤ xs.length)) (.ret (.sub j (lo0 + l.toNat) (h - l).toNat)) .fail
      | _, _ => .fail) else .fail
    | _ => .fail
  | .nilS => match slElem E t with
    | some (_, j) => bif slTy E t j.size then (match boundOf 0 lo, boundOf 0 hi with
      | some l, some h => .ite (decide (l = 0) && decide (h = 0)) (.ret .nilS) .fail
      | _, _ => .fail) else .fail
    | none => .fail
  | _ => .fail
def semMake (E : Env) (t : Nat) (n c : AV) : HM AV := match slElem E t, n, c with
  | some (_, j), .int .i64 n, .int .i64 c => match j.kind, j.zero with
    | some k, z => bif Nat.beq k.size j.size && k.flat && Nat.blt 0 j.bytes then
        .ite (decide (n = c) && decide (0 ≤ n) && decide (n * j.bytes ≤ 140737488355328))
          (impK k z fun x r => match r with
            | [] => .new (.list 0 k (List.replicate n.toNat x)) fun q => .ret (.own q)
            | _ => .fail) .fail
      else .fail
    | _, _ => .fail
  | _, _, _ => .fail
def semAppend (E : Env) (t u : Nat) (s x : AV) : HM AV := match slElem E t with
  | some (_, j) => match j.kind with
    | some k =>
      let grow (ys : List k.T) : HM AV := listO s k fun xs =>
        .ite (decide ((xs.length + ys.length) * j.bytes ≤ 140737488355328)) (.new (.list 0 k (xs ++ ys)) fun q => .ret (.own q)) .fail
      bif Nat.beq k.size j.size && Nat.blt 0 j.bytes then
        (match x with
        | .str y => match look E.types u with
          | some i => match i.desc, k, grow with
            | .str, .int .u8, grow => grow (toBytes y)
            | _, _, _ => .fail
          | none => .fail
        | x => bif Nat.beq t u then (bif k.flat then (bif k.noArr then listR x k grow else .fail) else listO x k grow) else .fail)
      else .fail
    | none => .fail
  | none => .fail
def cpy {α : Type} (xs : List α) (lo n : Nat) (ys : List α) : List α := xs.take lo ++ ys.take n ++ xs.drop (lo + (ys.take n).length)
def semCopy (E : Env) (t u : Nat) (d s : AV) : HM AV := match slElem E t with
  | some (_, j) => match j.kind with
    | some k => bif Nat.beq k.size j.size && Nat.beq t u && k.flat && k.noArr then listR s k fun ys => (match d with
        | .own q => .get q fun
          | .list g k' xs => if h : k = k' then .put q (.list g k' (cpy xs 0 xs.length (h ▸ ys))) (.ret (.int .i64 (List.length (ys.take xs.length)))) else .fail
          | _ => .fail
        | .sub q lo n => .get q fun
          | .list g k' xs => if h : k = k' then .put q (.list g k' (cpy xs lo n (h ▸ ys))) (.ret (.int .i64 (List.length (ys.take n)))) else .fail
          | _ => .fail
        | _ => .fail) else .fail
    | none => .fail
  | none => .fail
def semConvert (E : Env) (t u : Nat) (x : AV) : HM AV := match look E.types t, look E.types u with
  | some i, some j => match i.desc, j.desc, x with
    | .int _, .int k, .int _ n => .ret (.int k (k.wrap n))
    | .str, .str, .str s => .ret (.str s)
    | .str, .slice e, .str s => match look E.types e with
      | some q => match q.desc with
        | .int .u8 => .new (.list 0 (.int .u8) (toBytes s)) fun r => .ret (.own r)
        | _ => .fail
      | none => .fail
    | .slice e, .str, x => match look E.types e with
      | some q => match q.desc with
        | .int .u8 => listR x (.int .u8) fun xs => .ret (.str (ofBytes xs))
        | _ => .fail
      | none => .fail
    | _, _, _ => .fail
  | _, _ => .fail
def foldInt (f : Int → Int → Int) (k : IntKind) (x : Int) : List AV → HM AV
  | [] => .ret (.int k x)
  | .int k' y :: r => bif kindIs k k' then foldInt f k (f x y) r else .fail
  | _ => .fail
def mnI (x y : Int) : Int := bif decide (y < x) then y else x
def mxI (x y : Int) : Int := bif decide (x < y) then y else x
def listM' {α : Type} (v : AV) (k : K) (sv : List (Nat × Root)) (c : List k.T → List (Nat × Root) → HM α) : HM α := match v with
  | .nilS => c [] sv
  | .own j => .get j fun | .list g k' xs => if h : k' = k then .del j (c (h ▸ xs) ((j, .list g k' xs) :: sv)) else .fail
                         | _ => .fail
  | .nest j g i off => .get j fun | .list g' k' xs => bif Nat.beq g g' then .lift (idx xs i) fun x => (match getList k' x off k with
                                    | some ys => .del j (c ys ((j, .list g' k' xs) :: sv))
                                    | none => .fail) else .fail
                                  | _ => .fail
  | _ => .fail
def listM {α : Type} (v : AV) (k : K) (sv : List (Nat × Root)) (c : List k.T → List (Nat × Root) → HM α) : HM α := bif k.flat then listM' v k sv c else .fail
def impM {α : Type} : (k : IK) → List AV → List (Nat × Root) → (k.T → List AV → List (Nat × Root) → HM α) → HM α
  | .int k, .int k' x :: r, sv, c => bif decide (k = k') then c x r sv else .fail
  | .bool, .bool x :: r, sv, c => c x r sv
  | .str, .str x :: r, sv, c => c x r sv
  | .own k, v :: r, sv, c => listM v k sv fun xs sv => c xs r sv
  | .pair a b, vs, sv, c => impM a vs sv fun x r sv => impM b r sv fun y r' sv => c (x, y) r' sv
  | _, _, _, _ => .fail
def impP {α : Type} (p : PM) (x : AV) (sv : List (Nat × Root)) (c : p.T → List (Nat × Root) → HM α) : HM α := match p, x, c with
  | .val v, x, c => impV v x fun y => c y sv
  | .mut (.c ik true), .agg cs, c => impM ik cs sv fun y r sv => nilR y (fun y => c y sv) r
  | .mut (.c ik false), x, c => impM ik [x] sv fun y r sv => nilR y (fun y => c y sv) r
  | .ptr a _, .box q 0, c => .get q fun
    | .box cs => .del q (impI a cs fun y r => nilR y (fun y => c y ((q, .box cs) :: sv)) r)
    | _ => .fail
  | .eat a, .box q 0, c => .get q fun
    | .box cs => .del q (impI a cs fun y r => nilR y (fun y => c y ((q, .box cs) :: sv)) r)
    | _ => .fail
  | .lend _, .nilS, c => c [] sv
  | .lend k, .own j, c => .get j fun
    | .list g k' xs => if h : k' = k then .del j (c (h ▸ xs) ((j, .list g k' xs) :: sv)) else .fail
    | _ => .fail
  | _, _, _ => .fail
def impPs {α : Type} : (ps : List PM) → List AV → List (Nat × Root) → (PMs ps → List (Nat × Root) → HM α) → HM α
  | [], [], sv, c => c () sv
  | [p], [x], sv, c => impP p x sv c
  | p :: q :: ps, x :: xs, sv, c => impP p x sv fun a sv => impPs (q :: ps) xs sv fun r sv => c (a, r) sv
  | _, _, _, _ => .fail
def liveP {α : Type} (p : PM) (x : AV) (sv : List (Nat × Root)) (c : HM α) : HM α := match p, x with
  | .val (.c ik true), .agg cs => liveI ik cs fun _ => c
  | .val (.c ik false), x => liveI ik [x] fun _ => c
  | .val (.box _), _ => .fail
  | .val (.peek k), .box q 0 => .get q fun
    | .box cs => liveI (toRo k) cs fun _ => c
    | _ => .fail
  | .val (.peek _), .roElem _ _ _ => c
  | .val (.peek _), _ => .fail
  | .ptr a _, .box q 0 => match look sv q with
    | some (.box cs) => liveI a cs fun _ => c
    | _ => .fail
  | .eat a, .box q 0 => match look sv q with
    | some (.box cs) => liveI a cs fun _ => c
    | _ => .fail
  | _, _ => c
def livePs {α : Type} : (ps : List PM) → List AV → List (Nat × Root) → HM α → HM α
  | p :: ps, x :: xs, sv, c => liveP p x sv (livePs ps xs sv c)
  | _, _, _, c => c
def dropP {α : Type} (p : PM) (x : AV) (sv : List (Nat × Root)) (c : HM α) : HM α := match p, x with
  | .val (.peek _), .roElem _ _ _ => c
  | .val (.peek _), _ => .fail
  | .val (.c ik true), .agg cs => dropI ik cs fun _ => c
  | .val (.c ik false), x => dropI ik [x] fun _ => c
  | .ptr a _, .box q 0 => match look sv q with
    | some (.box cs) => dropI a cs fun _ => c
    | _ => .fail
  | .eat a, .box q 0 => match look sv q with
    | some (.box cs) => dropI a cs fun _ => c
    | _ => .fail
  | _, _ => c
def dropPs {α : Type} : (ps : List PM) → List AV → List (Nat × Root) → HM α → HM α
  | p :: ps, x :: xs, sv, c => dropP p x sv (dropPs ps xs sv c)
  | _, _, _, c => c
def backL (x : AV) (k : K) (sv : List (Nat × Root)) (ys : List k.T) (c : HM AV) : HM AV := match x with
  | .nilS => c
  | .own j => match look sv j with
    | some (.list g k' _) => bif decide (k' = k) then .put j (.list g k ys) c else .fail
    | _ => .fail
  | .nest j g0 i off => match look sv j with
    | some (.list g k' xs) => bif Nat.beq g0 g then .lift (idx xs i) fun e => match setList k' e off k ys with
      | some e' => .put j (.list g k' (xs.set i.toNat e')) c
      | none => .fail
      else .fail
    | _ => .fail
  | _ => .fail
def backM : (k : IK) → List AV → List (Nat × Root) → k.T → (List AV → HM AV) → HM AV
  | .own k, v :: r, sv, ys, c => backL v k sv ys (c r)
  | .pair a b, vs, sv, y, c => backM a vs sv y.1 fun r => backM b r sv y.2 c
  | _, _ :: r, _, _, c => c r
  | _, [], _, _, _ => .fail
def backP : (p : PM) → AV → List (Nat × Root) → VKs p.out → HM AV → HM AV
  | .val _, _, _, _, c => c
  | .eat _, _, _, _, c => c
  | .lend _, .nilS, _, _, c => c
  | .lend k, .own j, sv, y, c => match look sv j with
    | some (.list _ k' _) => bif decide (k' = k) then .new (.box []) fun q => bif !(Nat.beq q 0) then .del q (.put j (.list q k y) c) else .fail else .fail
    | _ => .fail
  | .mut (.c ik true), .agg cs, sv, y, c => backM ik cs sv y fun _ => c
  | .mut (.c ik false), x, sv, y, c => backM ik [x] sv y fun _ => c
  | .ptr _ b, .box q 0, _, y, c => expI b y fun cs => .put q (.box cs) c
  | _, _, _, _, _ => .fail
def split2 : (a b : List VK) → VKs (a ++ b) → VKs a × VKs b
  | [], _, x => ((), x)
  | [_], [], x => (x, ())
  | [_], _ :: _, x => x
  | _ :: b :: r, s, x => let y := split2 (b :: r) s x.2; ((x.1, y.1), y.2)
def backPs : (ps : List PM) → List AV → List (Nat × Root) → VKs (outs ps) → HM AV → HM AV
  | [], _, _, _, c => c
  | p :: ps, x :: xs, sv, r, c => let y := split2 p.out (outs ps) r; backP p x sv y.1 (backPs ps xs sv y.2 c)
  | _, _, _, _, _ => .fail
def expVs {α : Type} : (vs : List VK) → VKs vs → (List AV → HM α) → HM α
  | [], _, c => c []
  | [v], x, c => expV v x fun a => c [a]
  | v :: w :: r, x, c => expV v x.1 fun a => expVs (w :: r) x.2 fun l => c (a :: l)
def retOf : List AV → AV
  | [v] => v
  | l => .tup l
def semCall (con : Con) (args : List AV) : HM AV :=
  impPs con.ps args [] fun x sv => livePs con.ps args sv <|
    let go : HM AV := .lift (con.F x) fun y =>
      let z := split2 con.rs (outs con.ps) y
      backPs con.ps args sv z.2 (expVs con.rs z.1 fun vs => .ret (retOf vs))
    bif (con.rs ++ outs con.ps).all VK.noRo then go else dropPs con.ps args sv go
def semBuiltin (E : Env) (b : Builtin) (ts : List Nat) (args : List AV) : HM AV := match b, ts, args with
  | .len, [t], [x] => lenOf E t x
  | .append, [t, u], [s, x] => semAppend E t u s x
  | .copy, [t, u], [d, s] => semCopy E t u d s
  | .min, _, .int k x :: r => foldInt mnI k x r
  | .max, _, .int k x :: r => foldInt mxI k x r
  | _, _, _ => .fail
def sem (E : Env) (ev : Operand → AV) : Op → HM AV
  | .move x | .assign x => .ret (ev x)
  | .pick c a b => match ev c with
    | .bool b' => .ite b' (.ret (ev a)) (.ret (ev b))
    | _ => .fail
  | .alloc t => semAlloc E t
  | .box t x => semBox E t (ev x)
  | .build t ps => semBuild E ev t ps.toList
  | .buildSlice t n ps => semBuildSlice E ev t n ps.toList
  | .load t a => semLoad E t (ev a)
  | .store t a v => semStore E t (ev a) (ev v)
  | .nilCheck x => match ev x with
    | .box q o => .ret (.box q o)
    | .elem j i o => .ret (.elem j i o)
    | .roElem k e o => .ret (.roElem k e o)
    | _ => .fail
  | .binOp op t x y _ => semBin E t op (ev x) (ev y)
  | .unOp op _ x => semUn op (ev x)
  | .convert t u x => semConvert E t u (ev x)
  | .makeSlice t n c => semMake E t (ev n) (ev c)
  | .slice t x lo hi none => semSlice E t (ev x) (lo.map ev) (hi.map ev)
  | .fieldAddr t a f => semFieldAddr E t f (ev a)
  | .field t x f => semField E t f (ev x)
  | .indexAddr t x i => semIndexAddr E t (ev x) (ev i)
  | .index t x i => semIndex E t (ev x) (ev i)
  | .extract t i => match ev t with
    | .tup vs => match vs[i]? with
      | some v => .ret v
      | none => .fail
    | _ => .fail
  | .call c => match c.callee with
    | .builtin b => semBuiltin E b c.argTypes.toList (c.args.toList.map ev)
    | .value f => match ev f with
      | .func g => match look E.cons g with
        | some con => semCall con (c.args.toList.map ev)
        | none => .fail
      | _ => .fail
    | _ => .fail
  | _ => .fail
structure TS where
  slots : List (Nat × AV)
  roots : List (Nat × Root)
  next : Nat
def TS.slot (s : TS) (t : Nat) : AV := (look s.slots t).getD .undef
def TS.ev (s : TS) : Operand → AV
  | .tmp t => s.slot t
  | .const v => avOf v
  | .func f => .func f
  | .global _ => .undef
def TS.set (s : TS) (d : Option Nat) (v : AV) : TS := match d with
  | some d => { s with slots := put s.slots d v }
  | none => s
def dstOf (ops : List Oper) (j : Nat) : Option Nat := match ops[j]? with
  | some o => o.dst
  | none => none
def runOps {ρ : Type} (E : Env) (all : List Oper) : Nat → List Oper → TS → (TS → Option ρ) → Option ρ
  | _, [], s, K => K s
  | q, o :: r, s, K =>
    let go (s : TS) : Option ρ := (sem E s.ev o.op).run (s.next + 16 * q) s.roots fun v h n => bif Nat.ble n (s.next + 16 * (q + 1)) then runOps E all (q + 1) r ({ s with roots := h }.set o.dst v) K else none
    let no (s : TS) : Option ρ := runOps E all (q + 1) r (s.set o.dst .skip) K
    match o.guard with
    | none => go s
    | some (j, want) => match dstOf all j with
      | none => none
      | some d => match s.slot d with
        | .bool b => bif b then (let s := s.set (some d) (.bool true); bif want then go s else no s)
                     else (let s := s.set (some d) (.bool false); bif want then no s else go s)
        | .skip => no s
        | _ => none
def maskOf : List (Nat × Nat) → List Edge → Nat → Nat
  | _, [], s => s
  | acc, e :: r, s => bif Region.binds .any e then maskOf acc r (Nat.lor (Nat.lor s (Nat.pow 2 e.on)) ((look acc e.on).getD 0)) else maskOf acc r s
def masks : Nat → List Oper → List (Nat × Nat) → List (Nat × Nat)
  | _, [], acc => acc
  | q, o :: r, acc => masks (q + 1) r ((q, maskOf acc o.after.toList 0) :: acc)
def opTmps (o : Op) : List Nat := o.operands.toList.filterMap fun | .tmp t => some t | _ => none
def optL : Option Nat → List Nat
  | some d => [d]
  | none => []
def memB (x : Nat) : List Nat → Bool
  | [] => false
  | y :: r => Nat.beq x y || memB x r
def meetB : List Nat → List Nat → Bool
  | [], _ => false
  | x :: r, l => memB x l || meetB r l
structure Foot where
  q : Nat
  dst : List Nat
  use : List Nat
  R : List Nat
  W : List Nat
def guardTmp (all : List Oper) (o : Oper) : List Nat := match o.guard with
  | some (j, _) => optL (dstOf all j)
  | none => []
def foots (all : List Oper) : Nat → List Oper → List (List Nat × List Nat) → List Foot
  | q, o :: r, (R, W) :: l => ⟨q, optL o.dst, opTmps o.op ++ guardTmp all o, R, W⟩ :: foots all (q + 1) r l
  | _, _, _ => []
def clash (a b : Foot) : Bool := meetB a.dst b.dst || meetB a.dst b.use || meetB a.use b.dst || meetB a.W b.W || meetB a.W b.R || meetB a.R b.W
def against (ms : List (Nat × Nat)) (a : Foot) : List Foot → Bool
  | [] => true
  | b :: r => (!clash a b || Nat.testBit ((look ms b.q).getD 0) a.q) && against ms a r
def allApart (ms : List (Nat × Nat)) : List Foot → Bool
  | [] => true
  | a :: r => against ms a r && allApart ms r
def edgesBack : Nat → List Oper → Bool
  | _, [] => true
  | q, o :: r => o.after.toList.all (fun e => !Region.binds .any e || Nat.blt e.on q) && edgesBack (q + 1) r
def drawOk (all : List Oper) (l : List (List Nat × List Nat)) : Bool := edgesBack 0 all && allApart (masks 0 all []) (foots all 0 all l)
def runOpsD {ρ : Type} (E : Env) (all : List Oper) : Nat → List Oper → TS → List (List Nat × List Nat) → (TS → Option ρ) → Option ρ
  | _, [], s, l, K => bif drawOk all l.reverse then K s else none
  | q, o :: r, s, l, K =>
    let go (s : TS) : Option ρ := (sem E s.ev o.op).runL (s.next + 16 * q) s.roots [] [] fun v h n R W => bif Nat.ble n (s.next + 16 * (q + 1)) then runOpsD E all (q + 1) r ({ s with roots := h }.set o.dst v) ((R, W) :: l) K else none
    let no (s : TS) : Option ρ := runOpsD E all (q + 1) r (s.set o.dst .skip) (([], []) :: l) K
    match o.guard with
    | none => go s
    | some (j, want) => match dstOf all j with
      | none => none
      | some d => match s.slot d with
        | .bool b => bif b then (let s := s.set (some d) (.bool true); bif want then go s else no s)
                     else (let s := s.set (some d) (.bool false); bif want then no s else go s)
        | .skip => no s
        | _ => none
inductive Leaf where
  | lab (id : Nat) (k : List Item) (s : TS)
  | ret (s : TS)
def isLab (labs : List Nat) (id : Nat) : Bool := labs.any (Nat.beq id)
def exec {ρ : Type} (E : Env) (labs : List Nat) (K : Leaf → Option ρ) : Nat → Bool → List Item → TS → Option ρ
  | 0, _, _, _ => none
  | _ + 1, _, [], s => K (.ret s)
  | n + 1, fst, .code c :: k, s => match c with
    | .ret => K (.ret s)
    | .skip => exec E labs K n fst k s
    | .seq a b => exec E labs K n fst (.code a :: .code b :: k) s
    | .cond c x y => match s.ev c with
      | .bool b => bif b then exec E labs K n fst (.code x :: k) s else exec E labs K n fst (.code y :: k) s
      | _ => none
    | .block id c => exec E labs K n fst (.code c :: .inBlock id :: k) s
    | .loop c => exec E labs K n fst (.code c :: .inLoop c :: k) s
    | .exit id => match exitTo id k with
      | some k' => exec E labs K n fst k' s
      | none => none
    | .region id ops draw => bif !fst && isLab labs id then K (.lab id (.code c :: k) s)
      else bif draw then runOpsD E ops.toList 0 ops.toList s [] fun s' => exec E labs K n false k { s' with next := s'.next + 16 * ops.toList.length }
      else runOps E ops.toList 0 ops.toList s fun s' => exec E labs K n false k { s' with next := s'.next + 16 * ops.toList.length }
    | _ => none
  | n + 1, fst, .inBlock _ :: k, s => exec E labs K n fst k s
  | n + 1, fst, .inLoop c :: k, s => exec E labs K n fst (.code c :: .inLoop c :: k) s
  | _ + 1, _, _, _ => none
inductive Src where
  | slot (t : Nat) | cell (t : Nat)
structure Lab where
  D : List VK
  src : List Src
  al : List (Nat × Nat × Nat)
def read1 {α : Type} (s : TS) (v : VK) (src : Src) (c : v.T → HM α) : HM α := match v, src, c with
  | v, .slot t, c => impV v (s.slot t) c
  | .c ik _, .cell t, c => (match s.slot t with
    | .box q 0 => .get q fun
      | .box cs => .del q (impI ik cs fun y r => nilR y c r)
      | _ => .fail
    | _ => .fail)
  | .arr n k, .cell t, c => (match s.slot t with
    | .box q 0 => .get q fun
      | .arr n' k' xs => if h : k' = k then (bif Nat.beq n n' then .del q (c (h ▸ xs)) else .fail) else .fail
      | _ => .fail
    | _ => .fail)
  | _, _, _ => .fail
def readVals {α : Type} (s : TS) : (l : List VK) → List Src → (VKs l → HM α) → HM α
  | [], _, c => c ()
  | [v], a :: _, c => read1 s v a c
  | v :: w :: r, a :: asv, c => read1 s v a fun x => readVals s (w :: r) asv fun y => c (x, y)
  | _, _, _ => .fail
def live1 {α : Type} (s : TS) (v : VK) (src : Src) (c : HM α) : HM α := match v, src with
  | .peek _, .slot t => (match s.slot t with
    | .roElem _ _ _ => c
    | _ => .fail)
  | .c ik true, .slot t => (match s.slot t with
    | .agg cs => liveI ik cs fun _ => c
    | _ => .fail)
  | .c ik false, .slot t => liveI ik [s.slot t] fun _ => c
  | .box ik, .slot t => (match s.slot t with
    | .box q 0 => (match look s.roots q with
      | some (.box cs) => liveI ik cs fun _ => c
      | _ => .fail)
    | _ => .fail)
  | .c ik _, .cell t => (match s.slot t with
    | .box q 0 => (match look s.roots q with
      | some (.box cs) => liveI ik cs fun _ => c
      | _ => .fail)
    | _ => .fail)
  | _, _ => c
def liveVals {α : Type} (s : TS) : List VK → List Src → HM α → HM α
  | v :: r, a :: asv, c => live1 s v a (liveVals s r asv c)
  | _, _, c => c
def alOk (s : TS) (p : Nat × Nat × Nat) : Bool := match s.slot p.1, s.slot p.2.1 with
  | .own j, .box b 0 => (match look s.roots b with
    | some (.box cs) => (match cs[p.2.2]? with
      | some (.own j') => Nat.beq j j'
      | _ => false)
    | _ => false)
  | _, _ => false
def Lab.read {ρ : Type} (L : Lab) (s : TS) (K : VKs L.D → Option ρ) : Option ρ :=
  bif L.al.all (alOk s) then (readVals s L.D L.src fun x => liveVals s L.D L.src (.ret x)).run s.next s.roots (fun x _ _ => K x) else none
def head1 {α : Type} (v : VK) (src : Src) (x : v.T) (acc : List (Nat × AV)) (c : List (Nat × AV) → HM α) : HM α := match src with
  | .slot t => expV v x fun a => c ((t, a) :: acc)
  | .cell _ => .fail
def headVals {α : Type} : (l : List VK) → List Src → VKs l → List (Nat × AV) → (List (Nat × AV) → HM α) → HM α
  | [], _, _, acc, c => c acc
  | [v], a :: _, x, acc, c => head1 v a x acc c
  | v :: w :: r, a :: asv, x, acc, c => head1 v a x.1 acc fun acc => headVals (w :: r) asv x.2 acc c
  | _, _, _, _, _ => .fail
def alHead (h : List (Nat × Root)) : List (Nat × Nat × Nat) → List (Nat × AV) → List (Nat × AV)
  | [], acc => acc
  | (t, q, c) :: r, acc => match look acc q with
    | some (.box b 0) => (match look h b with
      | some (.box cs) => (match cs[c]? with
        | some v => alHead h r ((t, v) :: acc)
        | none => alHead h r acc)
      | _ => alHead h r acc)
    | _ => alHead h r acc
def Lab.head {ρ : Type} (L : Lab) (x : VKs L.D) (K : TS → Option ρ) : Option ρ :=
  (headVals L.D L.src x [] fun acc => .ret acc).run 0 [] fun acc h n => K { slots := alHead h L.al acc, roots := h, next := n }
structure LabK (ρ : Type) where
  L : Lab
  k : VKs L.D → Option ρ
def leafK {ρ : Type} (ls : List (Nat × LabK ρ)) (R : LabK ρ) : Leaf → Option ρ
  | .lab id _ s => match look ls id with
    | some l => l.L.read s l.k
    | none => none
  | .ret s => R.L.read s R.k
def seek (id : Nat) : Code → List Item → Option (List Item)
  | .region i ops d, k => bif Nat.beq i id then some (.code (.region i ops d) :: k) else none
  | .seq a b, k => match seek id a (.code b :: k) with
    | some r => some r
    | none => seek id b k
  | .cond _ a b, k => match seek id a k with
    | some r => some r
    | none => seek id b k
  | .block i c, k => seek id c (.inBlock i :: k)
  | .loop c, k => seek id c (.inLoop c :: k)
  | _, _ => none
def stretch {ρ : Type} (E : Env) (ids : List Nat) (ls : List (Nat × LabK ρ)) (R : LabK ρ) (fst : Bool) (k : List Item) (L : Lab) (x : VKs L.D) : Option ρ :=
  L.head x fun s => exec E ids (leafK ls R) 100000 fst k s
end Go.TM

/- How data lie in memory: read only (RO), and owned (Own: the blocks are told). -/
namespace Go.TM
open Go
theorem cell_of_same {w w' : World} {a : Addr} (h : w'.heap[a.block]? = w.heap[a.block]?) : w'.cell? a = w.cell? a := by simp [World.cell?, h]
theorem add_block (a : Addr) (n : Nat) : (a.add n).block = a.block := by unfold Addr.add; split <;> rfl
theorem add_plain (g j : Nat) : (⟨g, 0, none⟩ : Addr).add j = ⟨g, j, none⟩ := by unfold Addr.add; split <;> simp_all
theorem add_add (a : Addr) (i j : Nat) : (a.add i).add j = a.add (i + j) := by
  unfold Addr.add
  by_cases h1 : i = 0 <;> by_cases h2 : j = 0 <;> simp [h1, h2, Nat.add_assoc]
theorem lt_of_some {w : World} {g : Nat} {o : Obj} (h : w.heap[g]? = some o) : g < w.heap.size := (Array.getElem?_eq_some_iff.1 h).1
theorem lt_of_cell {w : World} {a : Addr} {v : Value} (h : w.cell? a = some v) : a.block < w.heap.size := by
  unfold World.cell? at h
  split at h
  · rename_i hh; exact lt_of_some hh
  · cases h
def RO : (k : K) → World → List Nat → k.T → List Value → Prop
  | .int ik, _, _, x, cs => cs = [.int ik x]
  | .bool, _, _, x, cs => cs = [.bool x]
  | .str, _, _, x, cs => cs = [.string x]
  | .list k, w, rs, xs, cs => ∃ A c, cs = [.slice A (List.length xs) c] ∧ List.length xs ≤ c ∧ ∀ j (h : j < List.length xs), ∃ ad el, A = some ad ∧ ad.block ∈ rs ∧ RO k w rs (xs[j]'h) el ∧ ∀ q u, el[q]? = some u → w.cell? (ad.add (j * k.size + q)) = some u
  | .pair a b, w, rs, x, cs => ∃ c1 c2, cs = c1 ++ c2 ∧ RO a w rs x.1 c1 ∧ RO b w rs x.2 c2
  | .arr n k, w, rs, xs, cs => List.length xs = n ∧ cs.length = n * k.size ∧ ∀ j (h : j < List.length xs), RO k w rs (xs[j]'h) ((cs.drop (j * k.size)).take k.size)
theorem RO.len : ∀ {k : K} {w : World} {rs : List Nat} {x : k.T} {cs : List Value}, RO k w rs x cs → cs.length = k.size := by
  intro k
  induction k with
  | int | bool | str => intro w rs x cs h; simp only [RO] at h; subst h; rfl
  | list k => intro w rs x cs h; simp only [RO] at h; obtain ⟨A, c, rfl, _⟩ := h; rfl
  | pair a b iha ihb =>
    intro w rs x cs h; simp only [RO] at h
    obtain ⟨c1, c2, rfl, h1, h2⟩ := h
    rw [List.length_append, iha h1, ihb h2]; rfl
  | arr n k => intro w rs x cs h; simp only [RO] at h; exact h.2.1
theorem RO.mono : ∀ {k : K} {w : World} {rs rs' : List Nat} {x : k.T} {cs : List Value}, (∀ b, b ∈ rs → b ∈ rs') → RO k w rs x cs → RO k w rs' x cs := by
  intro k
  induction k with
  | int | bool | str => intro w rs rs' x cs _ h; exact h
  | list k ih =>
    intro w rs rs' x cs hm h; simp only [RO] at h ⊢
    obtain ⟨A, c, h1, h2, h3⟩ := h
    refine ⟨A, c, h1, h2, fun j hj => ?_⟩
    obtain ⟨ad, el, e1, e2, e3, e4⟩ := h3 j hj
    exact ⟨ad, el, e1, hm _ e2, ih hm e3, e4⟩
  | pair a b iha ihb =>
    intro w rs rs' x cs hm h; simp only [RO] at h ⊢
    obtain ⟨c1, c2, h0, h1, h2⟩ := h
    exact ⟨c1, c2, h0, iha hm h1, ihb hm h2⟩
  | arr n k ih =>
    intro w rs rs' x cs hm h; simp only [RO] at h ⊢
    exact ⟨h.1, h.2.1, fun j hj => ih hm (h.2.2 j hj)⟩
theorem RO.move : ∀ {k : K} {w w' : World} {rs : List Nat} {x : k.T} {cs : List Value}, (∀ b, b ∈ rs → w'.heap[b]? = w.heap[b]?) → RO k w rs x cs → RO k w' rs x cs := by
  intro k
  induction k with
  | int | bool | str => intro w w' rs x cs _ h; exact h
  | list k ih =>
    intro w w' rs x cs hm h; simp only [RO] at h ⊢
    obtain ⟨A, c, h1, h2, h3⟩ := h
    refine ⟨A, c, h1, h2, fun j hj => ?_⟩
    obtain ⟨ad, el, e1, e2, e3, e4⟩ := h3 j hj
    refine ⟨ad, el, e1, e2, ih hm e3, fun q u hu => ?_⟩
    exact (cell_of_same (w := w) (by rw [add_block]; exact hm _ e2)).trans (e4 q u hu)
  | pair a b iha ihb =>
    intro w w' rs x cs hm h; simp only [RO] at h ⊢
    obtain ⟨c1, c2, h0, h1, h2⟩ := h
    exact ⟨c1, c2, h0, iha hm h1, ihb hm h2⟩
  | arr n k ih =>
    intro w w' rs x cs hm h; simp only [RO] at h ⊢
    exact ⟨h.1, h.2.1, fun j hj => ih hm (h.2.2 j hj)⟩
def Free (fr : Nat × Nat) (n : Nat) : Prop := n ≤ fr.1 ∨ fr.2 ≤ fr.1
def Own : (k : K) → World → List Nat → k.T → List Value → Prop
  | .int ik, _, bs, x, cs => bs = [] ∧ cs = [.int ik x]
  | .bool, _, bs, x, cs => bs = [] ∧ cs = [.bool x]
  | .str, _, bs, x, cs => bs = [] ∧ cs = [.string x]
  | .list k, w, bs, xs, cs => ∃ v, cs = [v] ∧ ((v = .slice none 0 0 ∧ xs = [] ∧ bs = []) ∨
      ∃ g cap cur e fr bss, v = .slice (some ⟨g, 0, none⟩) (List.length xs) cap ∧ w.heap[g]? = some (.cells cur e fr) ∧ Free fr cur.size ∧ List.length xs ≤ cap ∧ 0 ≤ cap ∧ cur.size = cap * k.size ∧
        bs = g :: List.flatten bss ∧ bss.length = List.length xs ∧ ∀ j (h : j < List.length xs), ∃ b, bss[j]? = some b ∧ Own k w b (xs[j]'h) ((cur.toList.drop (j * k.size)).take k.size))
  | .pair a b, w, bs, x, cs => ∃ b1 b2 c1 c2, bs = b1 ++ b2 ∧ cs = c1 ++ c2 ∧ Own a w b1 x.1 c1 ∧ Own b w b2 x.2 c2
  | .arr _ _, _, _, _, _ => False
theorem Own.len : ∀ {k : K} {w : World} {bs : List Nat} {x : k.T} {cs : List Value}, Own k w bs x cs → cs.length = k.size := by
  intro k
  induction k with
  | int | bool | str => intro w bs x cs h; simp only [Own] at h; rw [h.2]; rfl
  | list k => intro w bs x cs h; simp only [Own] at h; obtain ⟨v, rfl, _⟩ := h; rfl
  | pair a b iha ihb =>
    intro w bs x cs h; simp only [Own] at h
    obtain ⟨b1, b2, c1, c2, rfl, rfl, h1, h2⟩ := h
    rw [List.length_append, iha h1, ihb h2]; rfl
  | arr n k => intro w bs x cs h; simp only [Own] at h
theorem Own.move : ∀ {k : K} {w w' : World} {bs : List Nat} {x : k.T} {cs : List Value}, (∀ b, b ∈ bs → w'.heap[b]? = w.heap[b]?) → Own k w bs x cs → Own k w' bs x cs := by
  intro k
  induction k with
  | int | bool | str => intro w w' bs x cs _ h; exact h
  | list k ih =>
    intro w w' bs x cs hm h; simp only [Own] at h ⊢
    obtain ⟨v, h1, h2⟩ := h
    refine ⟨v, h1, ?_⟩
    rcases h2 with h2 | ⟨g, cap, cur, e, fr, bss, e1, e2, e3, e4, e5, e6, e7, e8, e9⟩
    · exact .inl h2
    · refine .inr ⟨g, cap, cur, e, fr, bss, e1, (hm g (by rw [e7]; simp)).trans e2, e3, e4, e5, e6, e7, e8, fun j hj => ?_⟩
      obtain ⟨b, hb, ho⟩ := e9 j hj
      refine ⟨b, hb, ih (fun b' hb' => hm b' ?_) ho⟩
      rw [e7]
      exact List.mem_cons_of_mem _ (List.mem_flatten.2 ⟨b, List.mem_of_getElem? hb, hb'⟩)
  | pair a b iha ihb =>
    intro w w' bs x cs hm h; simp only [Own] at h ⊢
    obtain ⟨b1, b2, c1, c2, rfl, rfl, h1, h2⟩ := h
    exact ⟨b1, b2, c1, c2, rfl, rfl, iha (fun b hb => hm b (List.mem_append_left _ hb)) h1, ihb (fun b hb => hm b (List.mem_append_right _ hb)) h2⟩
  | arr n k => intro w w' bs x cs _ h; exact h
theorem Own.lt : ∀ {k : K} {w : World} {bs : List Nat} {x : k.T} {cs : List Value}, Own k w bs x cs → ∀ b, b ∈ bs → b < w.heap.size := by
  intro k
  induction k with
  | int | bool | str => intro w bs x cs h b hb; simp only [Own] at h; rw [h.1] at hb; cases hb
  | list k ih =>
    intro w bs x cs h b hb; simp only [Own] at h
    obtain ⟨v, _, h2⟩ := h
    rcases h2 with ⟨_, _, h3⟩ | ⟨g, cap, cur, e, fr, bss, e1, e2, e3, e4, e5, e6, e7, e8, e9⟩
    · rw [h3] at hb; cases hb
    · rw [e7] at hb
      rcases List.mem_cons.1 hb with rfl | hb
      · exact lt_of_some e2
      · obtain ⟨l, hl, hbl⟩ := List.mem_flatten.1 hb
        obtain ⟨j, hj, rfl⟩ := List.mem_iff_getElem.1 hl
        obtain ⟨b', hb', ho⟩ := e9 j (by omega)
        rw [List.getElem?_eq_getElem hj] at hb'
        injection hb' with hb'
        subst hb'
        exact ih ho b hbl
  | pair a b iha ihb =>
    intro w bs x cs h c hc; simp only [Own] at h
    obtain ⟨b1, b2, c1, c2, rfl, rfl, h1, h2⟩ := h
    rcases List.mem_append.1 hc with hc | hc
    · exact iha h1 c hc
    · exact ihb h2 c hc
  | arr n k => intro w bs x cs h; simp only [Own] at h
theorem take_get {α : Type} (l : List α) (i n q : Nat) (u : α) (h : ((l.drop i).take n)[q]? = some u) : l[i + q]? = some u := by
  rw [List.getElem?_take] at h
  split at h
  · rwa [List.getElem?_drop] at h
  · cases h
theorem Own.ro : ∀ {k : K} {w : World} {bs : List Nat} {x : k.T} {cs : List Value}, Own k w bs x cs → RO k w bs x cs := by
  intro k
  induction k with
  | int | bool | str => intro w bs x cs h; simp only [Own] at h; simp only [RO]; exact h.2
  | list k ih =>
    intro w bs x cs h; simp only [Own] at h; simp only [RO]
    obtain ⟨v, rfl, h2⟩ := h
    rcases h2 with ⟨rfl, rfl, _⟩ | ⟨g, cap, cur, e, fr, bss, rfl, e2, e3, e4, e5, e6, e7, e8, e9⟩
    · exact ⟨none, 0, rfl, Nat.le_refl _, fun j hj => absurd hj (Nat.not_lt_zero j)⟩
    · refine ⟨_, cap, rfl, e4, fun j hj => ?_⟩
      obtain ⟨b, hb, ho⟩ := e9 j hj
      refine ⟨_, _, rfl, by rw [e7]; exact List.mem_cons_self, (ih ho).mono (fun b' hb' => ?_), fun q u hu => ?_⟩
      · rw [e7]
        exact List.mem_cons_of_mem _ (List.mem_flatten.2 ⟨b, List.mem_of_getElem? hb, hb'⟩)
      · rw [add_plain]
        have := take_get _ _ _ _ _ hu
        simp only [World.cell?, e2]
        simpa using this
  | pair a b iha ihb =>
    intro w bs x cs h; simp only [Own] at h; simp only [RO]
    obtain ⟨b1, b2, c1, c2, rfl, rfl, h1, h2⟩ := h
    exact ⟨c1, c2, rfl, (iha h1).mono (fun b hb => List.mem_append_left _ hb), (ihb h2).mono (fun b hb => List.mem_append_right _ hb)⟩
  | arr n k => intro w bs x cs h; simp only [Own] at h
end Go.TM

/- What ties a state over data to the machine's memory. -/
namespace Go.TM
open Go
structure Ge where
  D : Nat → Prop
  L : Nat → Value
  KJ : Nat → K
  HD : Nat → Nat → Nat → Value
def blockOf : Value → Option Nat
  | .slice (some a) _ _ => some a.block
  | .pointer (some a) => some a.block
  | _ => none
def SubV (L : Value) (size lo m : Nat) (v : Value) : Prop :=
  ∃ A len cap A' c, L = .slice A len cap ∧ lo + m ≤ len ∧ v = .slice A' m c ∧ m ≤ c ∧ (0 < m → A' = A.map (·.add (lo * size))) ∧ (lo = 0 → A' = A ∧ c = cap)
mutual
def AVR (G : Ge) (w : World) (N : Nat → Prop) : AV → Value → Prop
  | .undef, _ => True
  | .skip, v => v = Go.undef
  | .int k x, v => v = .int k x
  | .bool b, v => v = .bool b
  | .str s, v => v = .string s
  | .nilS, v => v = .slice none 0 0
  | .ro k xs, v => ∃ rs, RO (.list k) w rs xs [v] ∧ ∀ b, b ∈ rs → ¬ N b ∧ b < w.heap.size
  | .own j, v => G.D j ∧ v = G.L j ∧ v.oneCell' = true
  | .sub j lo m, v => G.D j ∧ SubV (G.L j) (G.KJ j).size lo m v
  | .box i off, v => G.D i ∧ ∃ g, G.L i = .pointer (some ⟨g, 0, none⟩) ∧ v = .pointer (some ⟨g, off, none⟩)
  | .elem j x off, v => G.D j ∧ ∃ g, blockOf (G.L j) = some g ∧ v = .pointer (some ⟨g, x.toNat * (G.KJ j).size + off, none⟩)
  | .roElem k e off, v => ∃ (rs : List Nat) (ad : Addr) (cs : List Value), RO k w rs e cs ∧ (∀ b, b ∈ rs → ¬ N b ∧ b < w.heap.size) ∧ ad.block ∈ rs ∧ (∀ q u, cs[q]? = some u → w.cell? (ad.add q) = some u) ∧ v = .pointer (some (ad.add off))
  | .nest j g x off, v => G.D j ∧ v = G.HD j g (x.toNat * (G.KJ j).size + off) ∧ v.oneCell' = true ∧ (g = 0 ∨ G.D g)
  | .arr n k xs, v => ∃ rs a, v = .agg a ∧ RO (.arr n k) w rs xs a.toList ∧ ∀ b, b ∈ rs → ¬ N b ∧ b < w.heap.size
  | .agg cs, v => ∃ a, v = .agg a ∧ (∀ u, u ∈ a.toList → u.oneCell' = true) ∧ AVRs G w N cs a.toList
  | .tup cs, v => ∃ a, v = .tuple a ∧ AVRs G w N cs a.toList
  | .nilP, v => v = .pointer none
  | .func f, v => v = .func (.func f) #[] #[]
def AVRs (G : Ge) (w : World) (N : Nat → Prop) : List AV → List Value → Prop
  | [], [] => True
  | a :: r, v :: s => AVR G w N a v ∧ AVRs G w N r s
  | _, _ => False
end
structure Pres (G : Ge) (w : World) (N : Nat → Prop) (G' : Ge) (w' : World) (N' : Nat → Prop) : Prop where
  n : ∀ j, G.D j → G'.D j
  L : ∀ j, G.D j → G'.L j = G.L j
  KJ : ∀ j, G.D j → G'.KJ j = G.KJ j
  HD : ∀ j g, G.D j → (g = 0 ∨ G.D g) → G'.HD j g = G.HD j g
  mem : ∀ b, b < w.heap.size → ¬ N b → w'.heap[b]? = w.heap[b]?
  av : ∀ b, b < w.heap.size → N' b → N b
  sz : w.heap.size ≤ w'.heap.size
theorem Pres.refl (G : Ge) (w : World) (N : Nat → Prop) : Pres G w N G w N :=
  ⟨fun _ h => h, fun _ _ => rfl, fun _ _ => rfl, fun _ _ _ _ => rfl, fun _ _ _ => rfl, fun _ _ h => h, Nat.le_refl _⟩
theorem Pres.trans {G1 G2 G3 : Ge} {w1 w2 w3 : World} {N1 N2 N3 : Nat → Prop} (h : Pres G1 w1 N1 G2 w2 N2) (k : Pres G2 w2 N2 G3 w3 N3) : Pres G1 w1 N1 G3 w3 N3 where
  n := fun j hj => k.n j (h.n j hj)
  L := fun j hj => (k.L j (h.n j hj)).trans (h.L j hj)
  KJ := fun j hj => (k.KJ j (h.n j hj)).trans (h.KJ j hj)
  HD := fun j g hj hg => (k.HD j g (h.n j hj) (hg.imp id (h.n g))).trans (h.HD j g hj hg)
  mem := fun b hb hN => (k.mem b (Nat.lt_of_lt_of_le hb h.sz) (fun h2 => hN (h.av b hb h2))).trans (h.mem b hb hN)
  av := fun b hb h3 => h.av b hb (k.av b (Nat.lt_of_lt_of_le hb h.sz) h3)
  sz := Nat.le_trans h.sz k.sz
theorem RO.pres {G G' : Ge} {w w' : World} {N N' : Nat → Prop} (p : Pres G w N G' w' N') {k : K} {rs : List Nat} {x : k.T} {cs : List Value} (h : RO k w rs x cs) (hr : ∀ b, b ∈ rs → ¬ N b ∧ b < w.heap.size) :
    RO k w' rs x cs ∧ ∀ b, b ∈ rs → ¬ N' b ∧ b < w'.heap.size :=
  ⟨h.move fun b hb => p.mem b (hr b hb).2 (hr b hb).1, fun b hb => ⟨fun h' => (hr b hb).1 (p.av b (hr b hb).2 h'), Nat.lt_of_lt_of_le (hr b hb).2 p.sz⟩⟩
mutual
theorem AVR.pres {G G' : Ge} {w w' : World} {N N' : Nat → Prop} (p : Pres G w N G' w' N') : ∀ (a : AV) (v : Value), AVR G w N a v → AVR G' w' N' a v
  | .undef, _, _ => by simp only [AVR]
  | .skip, _, h => by simp only [AVR] at h ⊢; exact h
  | .int _ _, _, h => by simp only [AVR] at h ⊢; exact h
  | .bool _, _, h => by simp only [AVR] at h ⊢; exact h
  | .str _, _, h => by simp only [AVR] at h ⊢; exact h
  | .nilS, _, h => by simp only [AVR] at h ⊢; exact h
  | .ro _ _, _, h => by
    simp only [AVR] at h ⊢
    obtain ⟨rs, h1, h2⟩ := h
    exact ⟨rs, RO.pres p h1 h2⟩
  | .own j, _, h => by
    simp only [AVR] at h ⊢
    exact ⟨p.n _ h.1, by rw [p.L j h.1]; exact h.2⟩
  | .sub j _ _, _, h => by
    simp only [AVR] at h ⊢
    exact ⟨p.n _ h.1, by rw [p.L j h.1, p.KJ j h.1]; exact h.2⟩
  | .box i _, _, h => by
    simp only [AVR] at h ⊢
    exact ⟨p.n _ h.1, by rw [p.L i h.1]; exact h.2⟩
  | .elem j _ _, _, h => by
    simp only [AVR] at h ⊢
    exact ⟨p.n _ h.1, by rw [p.L j h.1, p.KJ j h.1]; exact h.2⟩
  | .roElem _ _ _, _, h => by
    simp only [AVR] at h ⊢
    obtain ⟨rs, ad, cs, h1, h2, h3, h4, h5⟩ := h
    obtain ⟨k1, k2⟩ := RO.pres p h1 h2
    exact ⟨rs, ad, cs, k1, k2, h3, fun q u hu => (cell_of_same (w := w) (by rw [add_block]; exact p.mem _ (h2 _ h3).2 (h2 _ h3).1)).trans (h4 q u hu), h5⟩
  | .nest j g _ _, _, h => by
    simp only [AVR] at h ⊢
    exact ⟨p.n _ h.1, by rw [p.HD j g h.1 h.2.2.2, p.KJ j h.1]; exact h.2.1, h.2.2.1, h.2.2.2.imp id (p.n g)⟩
  | .arr _ _ _, _, h => by
    simp only [AVR] at h ⊢
    obtain ⟨rs, a, h1, h2, h3⟩ := h
    exact ⟨rs, a, h1, RO.pres p h2 h3⟩
  | .agg cs, _, h => by
    simp only [AVR] at h ⊢
    obtain ⟨a, h1, h0, h2⟩ := h
    exact ⟨a, h1, h0, AVRs.pres p cs a.toList h2⟩
  | .tup cs, _, h => by
    simp only [AVR] at h ⊢
    obtain ⟨a, h1, h2⟩ := h
    exact ⟨a, h1, AVRs.pres p cs a.toList h2⟩
  | .nilP, _, h => by simp only [AVR] at h ⊢; exact h
  | .func _, _, h => by simp only [AVR] at h ⊢; exact h
theorem AVRs.pres {G G' : Ge} {w w' : World} {N N' : Nat → Prop} (p : Pres G w N G' w' N') : ∀ (l : List AV) (vs : List Value), AVRs G w N l vs → AVRs G' w' N' l vs
  | [], [], _ => by simp only [AVRs]
  | a :: r, v :: s, h => by
    simp only [AVRs] at h ⊢
    exact ⟨AVR.pres p a v h.1, AVRs.pres p r s h.2⟩
  | [], _ :: _, h => by simp only [AVRs] at h
  | _ :: _, [], h => by simp only [AVRs] at h
end
def isL : K → Nat → Bool
  | .list _, 0 => true
  | .pair a b, off => bif Nat.blt off a.size then isL a off else isL b (off - a.size)
  | _, _ => false
def RootR (G : Ge) (w : World) (N : Nat → Prop) (B : List Nat) (i : Nat) : Root → Prop
  | .list g k xs => G.KJ i = k ∧ Own (.list k) w B xs [G.L i] ∧ (∀ blk, blockOf (G.L i) = some blk → ∀ q, q < List.length xs → ∀ off, isL k off = true → w.cell? ⟨blk, q * k.size + off, none⟩ = some (G.HD i g (q * k.size + off)))
      ∧ (g = 0 ∨ G.D g)
  | .box cs => ∃ g cur ty, G.L i = .pointer (some ⟨g, 0, none⟩) ∧ B = [g] ∧ w.heap[g]? = some (.cells cur ty (0, 0)) ∧ (∀ u, u ∈ cur.toList → u.oneCell' = true) ∧ AVRs G w N cs cur.toList
  | .arr n k xs => G.KJ i = k ∧ k.flat = true ∧ ∃ g cur ty, G.L i = .pointer (some ⟨g, 0, none⟩) ∧ B = [g] ∧ w.heap[g]? = some (.cells cur ty (0, 0)) ∧ RO (.arr n k) w [] xs cur.toList
theorem own_block {k : K} {w : World} {bs : List Nat} {xs : List k.T} {v : Value} (h : Own (.list k) w bs xs [v]) {blk : Nat} (hb : blockOf v = some blk) : blk ∈ bs := by
  simp only [Own] at h
  obtain ⟨v', h1, h2⟩ := h
  injection h1 with h1
  subst h1
  rcases h2 with ⟨rfl, _⟩ | ⟨g, cap, cur, e, fr, bss, rfl, _, _, _, _, _, h7, _⟩
  · simp [blockOf] at hb
  · simp only [blockOf, Option.some.injEq] at hb
    subst hb
    rw [h7]
    exact List.mem_cons_self
theorem RootR.pres {G G' : Ge} {w w' : World} {N N' : Nat → Prop} (p : Pres G w N G' w' N') {B : List Nat} {i : Nat} (hi : G.D i) (hB : ∀ b, b ∈ B → w'.heap[b]? = w.heap[b]?) : ∀ {r : Root}, RootR G w N B i r → RootR G' w' N' B i r
  | .list g k xs, h => by
    simp only [RootR] at h ⊢
    obtain ⟨h1, h2, h3, h4⟩ := h
    refine ⟨(p.KJ i hi).trans h1, by rw [p.L i hi]; exact h2.move hB, fun blk hb q hq off ho => ?_, h4.imp id (p.n g)⟩
    rw [p.L i hi] at hb
    rw [p.HD i g hi h4]
    exact (cell_of_same (w := w) (hB blk (own_block h2 hb))).trans (h3 blk hb q hq off ho)
  | .box cs, h => by
    simp only [RootR] at h ⊢
    obtain ⟨g, cur, ty, h1, h2, h3, h0, h4⟩ := h
    exact ⟨g, cur, ty, (p.L i hi).trans h1, h2, (hB g (by rw [h2]; exact List.mem_singleton.2 rfl)).trans h3, h0, AVRs.pres p _ _ h4⟩
  | .arr n k xs, h => by
    simp only [RootR] at h ⊢
    obtain ⟨h1, h1', g, cur, ty, h2, h3, h4, h5⟩ := h
    exact ⟨(p.KJ i hi).trans h1, h1', g, cur, ty, (p.L i hi).trans h2, h3, (hB g (by rw [h3]; exact List.mem_singleton.2 rfl)).trans h4, h5.move (fun b hb => by cases hb)⟩
structure Ctx where
  w0 : World
  F : List Nat
  X : Nat → Prop
def NN (c : Ctx) (h : List (Nat × Root)) (B : Nat → List Nat) (E : Nat → Prop) (b : Nat) : Prop := (∃ i r, look h i = some r ∧ b ∈ B i) ∨ E b ∨ c.X b
structure Inv (c : Ctx) (h : List (Nat × Root)) (G : Ge) (w : World) (B : Nat → List Nat) (E : Nat → Prop) (sl : Nat → AV) (vs : Nat → Value) : Prop where
  root : ∀ i r, look h i = some r → G.D i ∧ RootR G w (NN c h B E) (B i) i r
  nodup : ∀ i r, look h i = some r → (B i).Nodup
  disj : ∀ i j r r', i ≠ j → look h i = some r → look h j = some r' → ∀ b, b ∈ B i → ¬ b ∈ B j
  own : ∀ i r, look h i = some r → ∀ b, b ∈ B i → b < w.heap.size ∧ (b ∈ c.F ∨ c.w0.heap.size ≤ b) ∧ ¬ E b
  lim : ∀ b, E b → b < w.heap.size ∧ (b ∈ c.F ∨ c.w0.heap.size ≤ b)
  os : w.os = c.w0.os
  tape : w.tape = c.w0.tape
  output : w.output = c.w0.output
  size : c.w0.heap.size ≤ w.heap.size
  keep : ∀ b, b < c.w0.heap.size → ¬ b ∈ c.F → w.heap[b]? = c.w0.heap[b]?
  slots : ∀ t, AVR G w (NN c h B E) (sl t) (vs t)
section
variable {c : Ctx} {h : List (Nat × Root)} {G : Ge} {w : World} {B : Nat → List Nat} {E : Nat → Prop} {sl : Nat → AV} {vs : Nat → Value}
theorem nbeq_false {i j : Nat} (h : i ≠ j) : Nat.beq i j = false := by
  cases hb : Nat.beq i j
  · rfl
  · exact absurd (Nat.eq_of_beq_eq_true hb) h
theorem look_del {α : Type} : ∀ (h : List (Nat × α)) (i j : Nat), look (del h i) j = if i = j then none else look h j
  | [], i, j => by simp [del, look]
  | (a, x) :: r, i, j => by
    simp only [del]
    cases ha : Nat.beq a i with
    | true =>
      have : a = i := Nat.eq_of_beq_eq_true ha
      subst this
      simp only [cond_true, look_del r a j]
      by_cases hj : a = j
      · simp [hj]
      · have : Nat.beq a j = false := nbeq_false hj
        simp [look, this, hj]
    | false =>
      simp only [cond_false, look]
      have hne : a ≠ i := by intro e; subst e; simp at ha
      cases hj : Nat.beq a j with
      | true =>
        have : a = j := Nat.eq_of_beq_eq_true hj
        subst this
        simp [Ne.symm hne]
      | false => simp only [cond_false]; exact look_del r i j
theorem look_put {α : Type} : ∀ (h : List (Nat × α)) (i : Nat) (x : α) (j : Nat), look (put h i x) j = if i = j then some x else look h j
  | [], i, x, j => by
    simp only [put, look]
    by_cases hj : i = j
    · subst hj; simp
    · have : Nat.beq i j = false := nbeq_false hj
      simp [this, hj]
  | (a, y) :: r, i, x, j => by
    simp only [put]
    cases ha : Nat.beq a i with
    | true =>
      have : a = i := Nat.eq_of_beq_eq_true ha
      subst this
      simp only [cond_true, look]
      by_cases hj : a = j
      · subst hj; simp
      · have : Nat.beq a j = false := nbeq_false hj
        simp [this, hj]
    | false =>
      simp only [cond_false, look]
      have hne : a ≠ i := by intro e; subst e; simp at ha
      cases hj : Nat.beq a j with
      | true =>
        have : a = j := Nat.eq_of_beq_eq_true hj
        subst this
        simp [Ne.symm hne]
      | false => simp only [cond_false]; exact look_put r i x j
theorem look_cons {α : Type} (h : List (Nat × α)) (i : Nat) (x : α) (j : Nat) : look ((i, x) :: h) j = if i = j then some x else look h j := by
  simp only [look]
  by_cases hj : i = j
  · subst hj; simp
  · have : Nat.beq i j = false := nbeq_false hj
    simp [this, hj]
theorem Inv.del (I : Inv c h G w B E sl vs) (i : Nat) {r : Root} (hr : look h i = some r) :
    Inv c (del h i) G w B (fun b => E b ∨ b ∈ B i) sl vs ∧ Pres G w (NN c h B E) G w (NN c (TM.del h i) B (fun b => E b ∨ b ∈ B i)) := by
  have hN : ∀ b, NN c (TM.del h i) B (fun b => E b ∨ b ∈ B i) b ↔ NN c h B E b := by
    intro b
    unfold NN
    constructor
    · rintro (⟨j, r', hj, hb⟩ | (hE | hb) | hX)
      · rw [look_del] at hj
        split at hj
        · cases hj
        · exact .inl ⟨j, r', hj, hb⟩
      · exact .inr (.inl hE)
      · exact .inl ⟨i, r, hr, hb⟩
      · exact .inr (.inr hX)
    · rintro (⟨j, r', hj, hb⟩ | hE | hX)
      · by_cases he : i = j
        · subst he; exact .inr (.inl (.inr hb))
        · exact .inl ⟨j, r', by rw [look_del, if_neg he]; exact hj, hb⟩
      · exact .inr (.inl (.inl hE))
      · exact .inr (.inr hX)
  have hP : Pres G w (NN c h B E) G w (NN c (TM.del h i) B (fun b => E b ∨ b ∈ B i)) :=
    ⟨fun _ h => h, fun _ _ => rfl, fun _ _ => rfl, fun _ _ _ _ => rfl, fun _ _ _ => rfl, fun b _ hb => (hN b).1 hb, Nat.le_refl _⟩
  have hl : ∀ j r', look (TM.del h i) j = some r' → i ≠ j ∧ look h j = some r' := by
    intro j r' hj
    rw [look_del] at hj
    split at hj
    · cases hj
    · rename_i hne; exact ⟨hne, hj⟩
  refine ⟨⟨fun j r' hj => ?_, fun j r' hj => I.nodup j r' (hl j r' hj).2, fun j k r1 r2 hjk h1 h2 => I.disj j k r1 r2 hjk (hl j r1 h1).2 (hl k r2 h2).2, fun j r' hj b hb => ?_, fun b hb => ?_, I.os, I.tape, I.output, I.size, I.keep, fun t => AVR.pres hP _ _ (I.slots t)⟩, hP⟩
  · obtain ⟨h1, h2⟩ := I.root j r' (hl j r' hj).2
    exact ⟨h1, RootR.pres hP h1 (fun _ _ => rfl) h2⟩
  · obtain ⟨h1, h2, h3⟩ := I.own j r' (hl j r' hj).2 b hb
    refine ⟨h1, h2, ?_⟩
    rintro (hE | hi)
    · exact h3 hE
    · exact I.disj i j r r' (hl j r' hj).1 hr (hl j r' hj).2 b hi hb
  · rcases hb with hb | hb
    · exact I.lim b hb
    · exact ⟨(I.own i r hr b hb).1, (I.own i r hr b hb).2.1⟩
theorem Inv.less (I : Inv c h G w B E sl vs) (E' : Nat → Prop) (hE : ∀ b, E' b → E b) :
    Inv c h G w B E' sl vs ∧ Pres G w (NN c h B E) G w (NN c h B E') := by
  have hP : Pres G w (NN c h B E) G w (NN c h B E') :=
    ⟨fun _ h => h, fun _ _ => rfl, fun _ _ => rfl, fun _ _ _ _ => rfl, fun _ _ _ => rfl, fun b _ hb => by
      rcases hb with hb | hb | hb
      · exact .inl hb
      · exact .inr (.inl (hE b hb))
      · exact .inr (.inr hb), Nat.le_refl _⟩
  exact ⟨⟨fun j r hj => ⟨(I.root j r hj).1, RootR.pres hP (I.root j r hj).1 (fun _ _ => rfl) (I.root j r hj).2⟩, I.nodup, I.disj, fun j r hj b hb => ⟨(I.own j r hj b hb).1, (I.own j r hj b hb).2.1, fun h' => (I.own j r hj b hb).2.2 (hE b h')⟩, fun b hb => I.lim b (hE b hb), I.os, I.tape, I.output, I.size, I.keep, fun t => AVR.pres hP _ _ (I.slots t)⟩, hP⟩
theorem Inv.world (I : Inv c h G w B E sl vs) {w' : World} (hos : w'.os = w.os) (htape : w'.tape = w.tape) (hout : w'.output = w.output) (hsz : w.heap.size ≤ w'.heap.size) (hm : ∀ b, b < w.heap.size → ¬ E b → w'.heap[b]? = w.heap[b]?) :
    Inv c h G w' B (fun b => E b ∨ (w.heap.size ≤ b ∧ b < w'.heap.size)) sl vs ∧ Pres G w (NN c h B E) G w' (NN c h B (fun b => E b ∨ (w.heap.size ≤ b ∧ b < w'.heap.size))) := by
  have hP : Pres G w (NN c h B E) G w' (NN c h B (fun b => E b ∨ (w.heap.size ≤ b ∧ b < w'.heap.size))) :=
    ⟨fun _ h => h, fun _ _ => rfl, fun _ _ => rfl, fun _ _ _ _ => rfl, fun b hb hN => hm b hb (fun hE => hN (.inr (.inl hE))), fun b hb hN => by
      rcases hN with hN | (hN | hN) | hN
      · exact .inl hN
      · exact .inr (.inl hN)
      · omega
      · exact .inr (.inr hN), hsz⟩
  refine ⟨⟨fun j r hj => ⟨(I.root j r hj).1, RootR.pres hP (I.root j r hj).1 (fun b hb => hm b (I.own j r hj b hb).1 (I.own j r hj b hb).2.2) (I.root j r hj).2⟩, I.nodup, I.disj, fun j r hj b hb => ?_, fun b hb => ?_, hos.trans I.os, htape.trans I.tape, hout.trans I.output, Nat.le_trans I.size hsz, fun b hb hF => ?_, fun t => AVR.pres hP _ _ (I.slots t)⟩, hP⟩
  · obtain ⟨h1, h2, h3⟩ := I.own j r hj b hb
    exact ⟨Nat.lt_of_lt_of_le h1 hsz, h2, fun h' => by rcases h' with h' | h'; exact h3 h'; omega⟩
  · rcases hb with hb | hb
    · exact ⟨Nat.lt_of_lt_of_le (I.lim b hb).1 hsz, (I.lim b hb).2⟩
    · exact ⟨hb.2, .inr (Nat.le_trans I.size hb.1)⟩
  · refine (hm b (Nat.lt_of_lt_of_le hb I.size) (fun hE => ?_)).trans (I.keep b hb hF)
    rcases (I.lim b hE).2 with h1 | h1
    · exact hF h1
    · omega
def Ge.ext (G : Ge) (j : Nat) (v : Value) (k : K) (hd : Nat → Nat → Value) : Ge :=
  { D := fun i => i = j ∨ G.D i, L := fun i => if i = j then v else G.L i, KJ := fun i => if i = j then k else G.KJ i, HD := fun i => if i = j then hd else G.HD i }
theorem Ge.ext_pres {G : Ge} {j : Nat} (hj : ¬ G.D j) (v : Value) (k : K) (hd : Nat → Nat → Value) (w : World) (N : Nat → Prop) : Pres G w N (G.ext j v k hd) w N :=
  ⟨fun _ h => .inr h, fun i hi => by simp [Ge.ext, show i ≠ j from fun e => hj (e ▸ hi)], fun i hi => by simp [Ge.ext, show i ≠ j from fun e => hj (e ▸ hi)], fun i g hi _ => by simp [Ge.ext, show i ≠ j from fun e => hj (e ▸ hi)], fun _ _ _ => rfl, fun _ _ h => h, Nat.le_refl _⟩
theorem Inv.add (I : Inv c h G w B E sl vs) {G' : Ge} (hG : Pres G w (NN c h B E) G' w (NN c h B E)) (j : Nat) (r : Root) (bs : List Nat) (h' : List (Nat × Root)) (hj : look h j = none) (hjn : G'.D j)
    (hh : ∀ i, look h' i = if j = i then some r else look h i) (hn : bs.Nodup) (hb : ∀ b, b ∈ bs → E b) (hr : ∀ N, (∀ b, N b ↔ NN c h B E b) → RootR G' w N bs j r) :
    Inv c h' G' w (fun i => if i = j then bs else B i) (fun b => E b ∧ ¬ b ∈ bs) sl vs ∧
    Pres G w (NN c h B E) G' w (NN c h' (fun i => if i = j then bs else B i) (fun b => E b ∧ ¬ b ∈ bs)) := by
  have hN : ∀ b, NN c h' (fun i => if i = j then bs else B i) (fun b => E b ∧ ¬ b ∈ bs) b ↔ NN c h B E b := by
    intro b
    unfold NN
    constructor
    · rintro (⟨i, r', hi, hbi⟩ | ⟨hE, _⟩ | hX)
      · rw [hh] at hi
        by_cases he : i = j
        · subst he
          simp only [if_true] at hbi
          exact .inr (.inl (hb b hbi))
        · rw [if_neg (Ne.symm he)] at hi
          simp only [if_neg he] at hbi
          exact .inl ⟨i, r', hi, hbi⟩
      · exact .inr (.inl hE)
      · exact .inr (.inr hX)
    · rintro (⟨i, r', hi, hbi⟩ | hE | hX)
      · have he : i ≠ j := by rintro rfl; rw [hj] at hi; cases hi
        exact .inl ⟨i, r', by rw [hh, if_neg (Ne.symm he)]; exact hi, by simp only [if_neg he]; exact hbi⟩
      · by_cases hbs : b ∈ bs
        · exact .inl ⟨j, r, by rw [hh, if_pos rfl], by simp only [if_true]; exact hbs⟩
        · exact .inr (.inl ⟨hE, hbs⟩)
      · exact .inr (.inr hX)
  have hP : Pres G w (NN c h B E) G' w (NN c h' (fun i => if i = j then bs else B i) (fun b => E b ∧ ¬ b ∈ bs)) :=
    ⟨hG.n, hG.L, hG.KJ, hG.HD, fun _ _ _ => rfl, fun b _ hb => (hN b).1 hb, Nat.le_refl _⟩
  have hl : ∀ i r', look h' i = some r' → (i = j ∧ r' = r) ∨ (i ≠ j ∧ look h i = some r') := by
    intro i r' hi
    rw [hh] at hi
    by_cases he : j = i
    · rw [if_pos he] at hi; injection hi with hi; exact .inl ⟨he.symm, hi.symm⟩
    · rw [if_neg he] at hi; exact .inr ⟨Ne.symm he, hi⟩
  refine ⟨⟨fun i r' hi => ?_, fun i r' hi => ?_, fun i k r1 r2 hik h1 h2 b hb1 hb2 => ?_, fun i r' hi b hbi => ?_, fun b hE => I.lim b hE.1, I.os, I.tape, I.output, I.size, I.keep, fun t => AVR.pres hP _ _ (I.slots t)⟩, hP⟩
  · rcases hl i r' hi with ⟨rfl, rfl⟩ | ⟨hne, hi⟩
    · refine ⟨hjn, ?_⟩
      simp only [if_true]
      exact hr _ hN
    · simp only [if_neg hne]
      exact ⟨hG.n _ (I.root i r' hi).1, RootR.pres hP (I.root i r' hi).1 (fun _ _ => rfl) (I.root i r' hi).2⟩
  · rcases hl i r' hi with ⟨rfl, rfl⟩ | ⟨hne, hi⟩
    · simp only [if_true]; exact hn
    · simp only [if_neg hne]; exact I.nodup i r' hi
  · rcases hl i r1 h1 with ⟨rfl, rfl⟩ | ⟨hne, h1⟩
    · rcases hl k r2 h2 with ⟨rfl, rfl⟩ | ⟨hne2, h2⟩
      · exact hik rfl
      · simp only [if_true] at hb1
        simp only [if_neg hne2] at hb2
        exact (I.own k r2 h2 b hb2).2.2 (hb b hb1)
    · rcases hl k r2 h2 with ⟨rfl, rfl⟩ | ⟨hne2, h2⟩
      · simp only [if_true] at hb2
        simp only [if_neg hne] at hb1
        exact (I.own i r1 h1 b hb1).2.2 (hb b hb2)
      · simp only [if_neg hne] at hb1
        simp only [if_neg hne2] at hb2
        exact I.disj i k r1 r2 hik h1 h2 b hb1 hb2
  · rcases hl i r' hi with ⟨rfl, rfl⟩ | ⟨hne, hi⟩
    · simp only [if_true] at hbi
      exact ⟨(I.lim b (hb b hbi)).1, (I.lim b (hb b hbi)).2, fun h' => h'.2 hbi⟩
    · simp only [if_neg hne] at hbi
      exact ⟨(I.own i r' hi b hbi).1, (I.own i r' hi b hbi).2.1, fun h' => (I.own i r' hi b hbi).2.2 h'.1⟩
end
end Go.TM

/- The model's operations at related values: types, loads, stores. -/
set_option linter.unusedVariables false
namespace Go.TM
open Go
def tdOk (P : Program) (t : Nat) (i : TInfo) : Prop :=
  (∃ ti, P.info? t = some ti ∧ ti.size = i.size ∧ ti.bytes = i.bytes ∧ ∃ z, ti.zero = some z ∧ z.cells.toList.map avOf1 = i.zero ∧ (∀ u, u ∈ z.cells.toList → u.oneCell' = true) ∧ z.cells.size = i.size ∧ (i.agg = true → ∃ c, z = .agg c) ∧ (i.agg = false → ∀ c, z ≠ .agg c)) ∧
  match i.desc with
  | .int k => P.underlying t = some (.int k) ∧ i.size = 1
  | .bool => P.underlying t = some .bool ∧ i.size = 1
  | .str => P.underlying t = some .string ∧ i.size = 1
  | .struct fs => ∃ fields, P.underlying t = some (.struct fields) ∧ (fields.toList.map fun f => (f.offset, f.type)) = fs ∧ P.eqGuardType P.depth t = false ∧ P.stoodInHeld t = false ∧ (∀ f, f ∈ fields.toList → f.name ≠ "_") ∧ ∃ places, fields.toList.mapM (fun f => (P.info? f.type).map fun i => (f.offset, i.size)) = some places
  | .array n e => P.underlying t = some (.array n e)
  | .slice e => P.underlying t = some (.slice e) ∧ i.size = 1
  | .ptr e => P.underlying t = some (.pointer e) ∧ i.size = 1
  | .other => False
section
variable {P : Program} {w : World} {t : Nat} {i : TInfo}
theorem tdOk.info (h : tdOk P t i) : ∃ ti, P.info? t = some ti ∧ ti.size = i.size ∧ ti.bytes = i.bytes := by
  obtain ⟨⟨ti, h1, h2, h3, _⟩, _⟩ := h
  exact ⟨ti, h1, h2, h3⟩
theorem run_typeInfo' {ti : TypeInfo} (h : P.info? t = some ti) : (typeInfo t).run P w = .ok ti w := by simp [typeInfo, h]
theorem tdOk.sizeOf (h : tdOk P t i) : (Go.sizeOf t).run P w = .ok i.size w := by
  obtain ⟨ti, h1, h2, _⟩ := h.info
  simp [Go.sizeOf, typeInfo, h1, h2]
theorem tdOk.zero (h : tdOk P t i) : ∃ z, (zeroValue t).run P w = .ok z w ∧ z.cells.toList.map avOf1 = i.zero ∧ (∀ u, u ∈ z.cells.toList → u.oneCell' = true) ∧ z.cells.size = i.size ∧ (i.agg = true → ∃ c, z = .agg c) ∧ (i.agg = false → ∀ c, z ≠ .agg c) := by
  obtain ⟨⟨ti, h1, _, _, z, h4, h5⟩, _⟩ := h
  exact ⟨z, by simp [zeroValue, typeInfo, h1, h4], h5⟩
theorem tdOk.isAgg (h : tdOk P t i) : (Go.isAgg t).run P w = .ok i.agg w := by
  obtain ⟨_, h⟩ := h
  unfold TInfo.agg
  cases hd : i.desc <;> simp only [hd] at h
  · simp [Go.isAgg, run_underlying h.1]
  · simp [Go.isAgg, run_underlying h.1]
  · simp [Go.isAgg, run_underlying h.1]
  · obtain ⟨fields, h1, _⟩ := h
    simp [Go.isAgg, run_underlying h1]
  · simp [Go.isAgg, run_underlying h]
  · simp [Go.isAgg, run_underlying h.1]
  · simp [Go.isAgg, run_underlying h.1]
theorem tdOk.one (h : tdOk P t i) (ha : i.agg = false) : i.size = 1 := by
  obtain ⟨_, h⟩ := h
  unfold TInfo.agg at ha
  cases hd : i.desc <;> simp only [hd] at h ha
  · exact h.2
  · exact h.2
  · exact h.2
  · cases ha
  · cases ha
  · exact h.2
  · exact h.2
end
section
variable {G : Ge} {w : World} {N : Nat → Prop}
theorem avr_const1 (v : Value) : AVR G w N (avOf1 v) v := by
  unfold avOf1
  split <;> simp only [AVR]
theorem avrs_const : ∀ (l : List Value), AVRs G w N (l.map avOf1) l
  | [] => by simp only [List.map_nil, AVRs]
  | v :: r => by simp only [List.map_cons, AVRs]; exact ⟨avr_const1 v, avrs_const r⟩
theorem AVRs.length : ∀ {l : List AV} {vs : List Value}, AVRs G w N l vs → l.length = vs.length
  | [], [], _ => rfl
  | _ :: _, _ :: _, h => by simp only [AVRs] at h; simp only [List.length_cons, AVRs.length h.2]
  | [], _ :: _, h => by simp only [AVRs] at h
  | _ :: _, [], h => by simp only [AVRs] at h
theorem AVRs.append : ∀ {l : List AV} {vs : List Value} {l' : List AV} {vs' : List Value}, AVRs G w N l vs → AVRs G w N l' vs' → AVRs G w N (l ++ l') (vs ++ vs')
  | [], [], _, _, _, h => h
  | _ :: _, _ :: _, _, _, h, h' => by
    simp only [AVRs] at h
    simp only [List.cons_append, AVRs]
    exact ⟨h.1, AVRs.append h.2 h'⟩
  | [], _ :: _, _, _, h, _ => by simp only [AVRs] at h
  | _ :: _, [], _, _, h, _ => by simp only [AVRs] at h
theorem AVRs.drop : ∀ {l : List AV} {vs : List Value} (n : Nat), AVRs G w N l vs → AVRs G w N (l.drop n) (vs.drop n)
  | _, _, 0, h => h
  | [], [], _ + 1, h => h
  | _ :: _, _ :: _, n + 1, h => by simp only [AVRs] at h; simp only [List.drop_succ_cons]; exact AVRs.drop n h.2
  | [], _ :: _, _ + 1, h => by simp only [AVRs] at h
  | _ :: _, [], _ + 1, h => by simp only [AVRs] at h
theorem AVRs.take : ∀ {l : List AV} {vs : List Value} (n : Nat), AVRs G w N l vs → AVRs G w N (l.take n) (vs.take n)
  | l, vs, 0, _ => by simp only [List.take_zero, AVRs]
  | [], [], _ + 1, h => h
  | _ :: _, _ :: _, n + 1, h => by simp only [AVRs] at h; simp only [List.take_succ_cons, AVRs]; exact ⟨h.1, AVRs.take n h.2⟩
  | [], _ :: _, _ + 1, h => by simp only [AVRs] at h
  | _ :: _, [], _ + 1, h => by simp only [AVRs] at h
theorem AVRs.get : ∀ {l : List AV} {vs : List Value} {n : Nat} {a : AV}, AVRs G w N l vs → l[n]? = some a → ∃ v, vs[n]? = some v ∧ AVR G w N a v
  | _ :: _, v :: _, 0, a, h, ha => by
    simp only [AVRs] at h
    simp only [List.getElem?_cons_zero, Option.some.injEq] at ha
    subst ha
    exact ⟨v, rfl, h.1⟩
  | _ :: _, _ :: _, n + 1, a, h, ha => by
    simp only [AVRs] at h
    simp only [List.getElem?_cons_succ] at ha ⊢
    exact AVRs.get h.2 ha
  | [], _, _, _, _, ha => by simp at ha
  | _ :: _, [], _, _, h, _ => by simp only [AVRs] at h
def mkVal (agg : Bool) (cs : List Value) : Value := bif agg then .agg cs.toArray else cs.getD 0 undef
theorem avr_mk {agg : Bool} {avs : List AV} {cs : List Value} (h : AVRs G w N avs cs) (h1 : ∀ u, u ∈ cs → u.oneCell' = true) (h0 : agg = false → cs.length = 1) : AVR G w N (mkV agg avs) (mkVal agg cs) := by
  cases agg with
  | true => simp only [mkV, mkVal, cond_true, AVR]; exact ⟨_, rfl, by simpa using h1, by simpa using h⟩
  | false =>
    have hc := h0 rfl
    match cs, hc with
    | [c], _ =>
      have hl := h.length
      match avs, hl with
      | [a], _ => simp only [AVRs] at h; simp only [mkV, mkVal, cond_false]; exact h.1
theorem avr_cells {v : AV} {val : Value} (h : AVR G w N v val) (hc : cellsOf v ≠ []) : AVRs G w N (cellsOf v) val.cells.toList ∧ ∀ u, u ∈ val.cells.toList → u.oneCell' = true := by
  cases v with
  | undef => simp [cellsOf] at hc
  | skip => simp [cellsOf] at hc
  | tup vs => simp [cellsOf] at hc
  | arr n k xs => simp [cellsOf] at hc
  | agg cs =>
    simp only [AVR] at h
    obtain ⟨a, rfl, h1, h2⟩ := h
    exact ⟨h2, h1⟩
  | int k x => simp only [AVR] at h; subst h; simp [cellsOf, Value.cells, AVRs, AVR, Value.oneCell']
  | bool b => simp only [AVR] at h; subst h; simp [cellsOf, Value.cells, AVRs, AVR, Value.oneCell']
  | str s => simp only [AVR] at h; subst h; simp [cellsOf, Value.cells, AVRs, AVR, Value.oneCell']
  | nilS => simp only [AVR] at h; subst h; simp [cellsOf, Value.cells, AVRs, AVR, Value.oneCell']
  | nilP => simp only [AVR] at h; subst h; simp [cellsOf, Value.cells, AVRs, AVR, Value.oneCell']
  | func f => simp only [AVR] at h; subst h; simp [cellsOf, Value.cells, AVRs, AVR, Value.oneCell']
  | ro k xs =>
    have h' := h
    simp only [AVR] at h
    obtain ⟨rs, h1, _⟩ := h
    simp only [RO] at h1
    obtain ⟨A, c, e, _⟩ := h1
    injection e with e
    subst e
    simp only [cellsOf, Value.cells, AVRs]
    exact ⟨⟨h', trivial⟩, by simp [Value.oneCell']⟩
  | own j =>
    have h' := h
    simp only [AVR] at h
    obtain ⟨_, _, h1⟩ := h
    have : val.cells.toList = [val] := by cases val <;> first | rfl | simp [Value.oneCell'] at h1
    rw [this]
    simp only [cellsOf, AVRs]
    exact ⟨⟨h', trivial⟩, by simpa using h1⟩
  | sub j lo n =>
    have h' := h
    simp only [AVR] at h
    obtain ⟨_, A, len, cap, A', c, _, _, e, _⟩ := h
    subst e
    simp only [cellsOf, Value.cells, AVRs]
    exact ⟨⟨h', trivial⟩, by simp [Value.oneCell']⟩
  | box i off =>
    have h' := h
    simp only [AVR] at h
    obtain ⟨_, g, _, e⟩ := h
    subst e
    simp only [cellsOf, Value.cells, AVRs]
    exact ⟨⟨h', trivial⟩, by simp [Value.oneCell']⟩
  | elem j x off =>
    have h' := h
    simp only [AVR] at h
    obtain ⟨_, g, _, e⟩ := h
    subst e
    simp only [cellsOf, Value.cells, AVRs]
    exact ⟨⟨h', trivial⟩, by simp [Value.oneCell']⟩
  | roElem k e off =>
    have h' := h
    simp only [AVR] at h
    obtain ⟨_, _, _, _, _, _, _, e⟩ := h
    subst e
    simp only [cellsOf, Value.cells, AVRs]
    exact ⟨⟨h', trivial⟩, by simp [Value.oneCell']⟩
  | nest j g x off =>
    have h' := h
    simp only [AVR] at h
    obtain ⟨_, _, h1, _⟩ := h
    have : val.cells.toList = [val] := by cases val <;> first | rfl | simp [Value.oneCell'] at h1
    rw [this]
    simp only [cellsOf, AVRs]
    exact ⟨⟨h', trivial⟩, by simpa using h1⟩
end
theorem run_loadVar_cells {P : Program} {w : World} {t : Nat} {i : TInfo} (h : tdOk P t i) (h0 : 0 < i.size) (a : Addr) (cs : List Value) (hl : cs.length = i.size) (hc : ∀ q u, cs[q]? = some u → w.cell? (a.add q) = some u) :
    (loadVar t a).run P w = .ok (mkVal i.agg cs) w := by
  cases ha : i.agg with
  | true => simp [loadVar, h.isAgg, ha, h.sizeOf, ← hl, run_loadCells_list w a cs hc, mkVal]
  | false =>
    have h1 := h.one ha
    match cs, hl.trans h1 with
    | [c], _ =>
      have := hc 0 c rfl
      rw [show a.add 0 = a from by simp [Addr.add]] at this
      simp [loadVar, h.isAgg, ha, this, mkVal]
structure OnlyBlock (w w' : World) (g : Nat) : Prop where
  os : w'.os = w.os
  tape : w'.tape = w.tape
  output : w'.output = w.output
  size : w'.heap.size = w.heap.size
  block : ∀ b, b ≠ g → w'.heap[b]? = w.heap[b]?
theorem OnlyBlock.refl (w : World) (g : Nat) : OnlyBlock w w g := ⟨rfl, rfl, rfl, rfl, fun _ _ => rfl⟩
theorem OnlyBlock.trans {w1 w2 w3 : World} {g : Nat} (h : OnlyBlock w1 w2 g) (k : OnlyBlock w2 w3 g) : OnlyBlock w1 w3 g :=
  ⟨k.os.trans h.os, k.tape.trans h.tape, k.output.trans h.output, k.size.trans h.size, fun b hb => (k.block b hb).trans (h.block b hb)⟩
theorem only_setCell (w : World) (g o : Nat) (u : Value) : OnlyBlock w (w.setCell ⟨g, o, none⟩ u) g :=
  ⟨rfl, rfl, rfl, by simp [World.setCell], fun b hb => by simp only [World.setCell, Array.getElem?_modify]; rw [if_neg (Ne.symm hb)]⟩
theorem set_list {α : Type} (l : List α) (o : Nat) (v : α) (vs : List α) (h : o < l.length) : (l.set o v).take (o + 1) ++ vs ++ (l.set o v).drop (o + 1 + vs.length) = l.take o ++ (v :: vs) ++ l.drop (o + (v :: vs).length) := by
  rw [List.take_succ_eq_append_getElem (by simpa using h), List.take_set_of_le (Nat.le_refl o), List.getElem_set_self, List.drop_set_of_lt (by omega)]
  simp [Nat.add_assoc, Nat.add_comm 1]
theorem run_storeCells_blk (P : Program) (g : Nat) (ty : TypeId) (fr : Nat × Nat) (a : Addr) : ∀ (vs : List Value) (i o : Nat) (cur : Array Value) (w : World), w.heap[g]? = some (.cells cur ty fr) → Free fr cur.size → (∀ j, a.add (i + j) = ⟨g, o + j, none⟩) → o + vs.length ≤ cur.size → (∀ v, v ∈ vs → v.oneCell' = true) →
    ∃ w', (storeCells a vs i).run P w = .ok () w' ∧ OnlyBlock w w' g ∧ w'.heap[g]? = some (.cells (cur.toList.take o ++ vs ++ cur.toList.drop (o + vs.length)).toArray ty fr)
  | [], i, o, cur, w, hg, _, _, _, _ => ⟨w, by simp [storeCells], OnlyBlock.refl w g, by simpa using hg⟩
  | v :: vs, i, o, cur, w, hg, hf, ha, hl, h1 => by
    have hlt : o < cur.size := by simp only [List.length_cons] at hl; omega
    have hai : a.add i = ⟨g, o, none⟩ := ha 0
    have hcell : w.cell? ⟨g, o, none⟩ = some (cur[o]'hlt) := by simp [World.cell?, hg]
    have hfz : w.frozen? ⟨g, o, none⟩ = false := by
      simp only [World.frozen?, hg, Bool.and_eq_false_iff, decide_eq_false_iff_not]
      unfold Free at hf
      omega
    have hw' : (w.setCell ⟨g, o, none⟩ v).heap[g]? = some (.cells (cur.setIfInBounds o v) ty fr) := by simp [World.setCell, Array.getElem?_modify, hg]
    obtain ⟨w', hr, ho, hb⟩ := run_storeCells_blk P g ty fr a vs (i + 1) (o + 1) (cur.setIfInBounds o v) (w.setCell ⟨g, o, none⟩ v) hw' (by simpa using hf)
      (fun j => by rw [Nat.add_assoc, Nat.add_comm 1 j, ha (j + 1)]; congr 1; omega) (by simp only [Array.size_setIfInBounds]; simp only [List.length_cons] at hl; omega) (fun u hu => h1 u (List.mem_cons_of_mem _ hu))
    refine ⟨w', ?_, (only_setCell w g o v).trans ho, ?_⟩
    · simp [storeCells, hai, run_store P w ⟨g, o, none⟩ v .plain (h1 v List.mem_cons_self), hcell, hfz, hr]
    · rw [hb]
      congr 3
      rw [Array.toList_setIfInBounds]
      exact set_list _ _ _ _ (by simpa using hlt)
theorem run_storeVar_blk {P : Program} {w : World} {t : Nat} {i : TInfo} (h : tdOk P t i) (g off : Nat) (ty : TypeId) (fr : Nat × Nat) (cur : Array Value) (hg : w.heap[g]? = some (.cells cur ty fr)) (hf : Free fr cur.size) (v : Value) (hv : v.cells.size = i.size)
    (hl : off + v.cells.size ≤ cur.size) (h1 : ∀ u, u ∈ v.cells.toList → u.oneCell' = true) :
    ∃ w', (storeVar t ⟨g, off, none⟩ v).run P w = .ok () w' ∧ OnlyBlock w w' g ∧ w'.heap[g]? = some (.cells (cur.toList.take off ++ v.cells.toList ++ cur.toList.drop (off + v.cells.toList.length)).toArray ty fr) := by
  obtain ⟨w', hr, ho, hb⟩ := run_storeCells_blk P g ty fr ⟨g, off, none⟩ v.cells.toList 0 off cur w hg hf (fun j => by
    rw [Nat.zero_add]; unfold Addr.add; split
    · rename_i hj; subst hj; rfl
    · rfl) (by simpa using hl) h1
  exact ⟨w', by simp [storeVar, h.sizeOf, hv, hr], ho, hb⟩
end Go.TM

/- One operation: what it does over data, the machine does. Part 1: numbers, texts, values. -/
set_option linter.unusedVariables false
set_option linter.unusedSimpArgs false
namespace Go.TM
open Go
def Emp : Nat → Prop := fun _ => False
def Out {ρ : Type} (c : Ctx) (K : AV → List (Nat × Root) → Nat → Option ρ) (r : ρ) (G : Ge) (nid : Nat) (sl : Nat → AV) (vs : Nat → Value) (val : Value) (w' : World) : Prop :=
  ∃ v h' n' G' B', K v h' n' = some r ∧ (∀ j, G.D j → G'.D j) ∧ (∀ j, G'.D j → G.D j ∨ (nid ≤ j ∧ j < n')) ∧ Inv c h' G' w' B' Emp sl vs ∧ AVR G' w' (NN c h' B' Emp) v val
def OpSim {ρ : Type} (P : Program) (c : Ctx) (K : AV → List (Nat × Root) → Nat → Option ρ) (r : ρ) (G : Ge) (nid : Nat) (sl : Nat → AV) (vs : Nat → Value) (m : Sem Next) (w : World) : Prop :=
  (∃ val w', m.run P w = .ok (.value val) w' ∧ Out c K r G nid sl vs val w') ∨
  (∃ w', m.run P w = .ok .skip w' ∧ Out c K r G nid sl vs Go.undef w') ∨
  (∃ f args, m.run P w = .ok (.enter f args) w ∧ Calls P f args w fun e w' => ∃ val, e = .returned val ∧ Out c K r G nid sl vs val w')
section
variable {P : Program} {E : Env} {c : Ctx} {h : List (Nat × Root)} {G : Ge} {w : World} {B : Nat → List Nat} {sl : Nat → AV} {vs : Nat → Value} {ρ : Type} {K : AV → List (Nat × Root) → Nat → Option ρ} {r : ρ} {nid : Nat}
theorem OpSim.val (I : Inv c h G w B Emp sl vs) {v : AV} {val : Value} {m : Sem Next} (hm : m.run P w = .ok (.value val) w) (hK : K v h nid = some r) (hv : AVR G w (NN c h B Emp) v val) : OpSim P c K r G nid sl vs m w :=
  .inl ⟨val, w, hm, v, h, nid, G, B, hK, fun _ h => h, fun _ h => .inl h, I, hv⟩
theorem run_v {s : Sem Value} {val : Value} {w' : World} (h : s.run P w = .ok val w') : (do pure (Next.value (← s)) : Sem Next).run P w = .ok (.value val) w' := by
  simp [h]
theorem int_sim {op : BinOp} {k : IntKind} {x y : Int} (hr : (binInt op k x y).run nid h K = some r) (ho : op ≠ .shl ∧ op ≠ .shr) (t : Nat) :
    ∃ val v, (binOp op t (.int k x) (.int k y)).run P w = .ok val w ∧ K v h nid = some r ∧ ∀ N, AVR G w N v val := by
  cases op <;> simp only [binInt, HM.run] at hr
  case add => exact ⟨.int k (k.wrap (x + y)), _, by simp [binOp, Op.intArith, Op.intBits, Op.intCmp], hr, fun N => by simp only [AVR]⟩
  case sub => exact ⟨.int k (k.wrap (x - y)), _, by simp [binOp, Op.intArith, Op.intBits, Op.intCmp], hr, fun N => by simp only [AVR]⟩
  case mul => exact ⟨.int k (k.wrap (x * y)), _, by simp [binOp, Op.intArith, Op.intBits, Op.intCmp], hr, fun N => by simp only [AVR]⟩
  case quo =>
    by_cases hy : y = 0
    · simp [hy] at hr
    · simp only [hy, decide_false, cond_false] at hr
      exact ⟨.int k (k.wrap (x.tdiv y)), _, by simp [binOp, Op.intDiv, hy], hr, fun N => by simp only [AVR]⟩
  case rem =>
    by_cases hy : y = 0
    · simp [hy] at hr
    · simp only [hy, decide_false, cond_false] at hr
      exact ⟨.int k (x.tmod y), _, by simp [binOp, Op.intDiv, hy], hr, fun N => by simp only [AVR]⟩
  case and => exact ⟨.int k (bitsOf .and k x y), _, by simp [binOp, Op.intArith, Op.intBits, Op.intCmp, bitsOf], hr, fun N => by simp only [AVR]⟩
  case or => exact ⟨.int k (bitsOf .or k x y), _, by simp [binOp, Op.intArith, Op.intBits, Op.intCmp, bitsOf], hr, fun N => by simp only [AVR]⟩
  case xor => exact ⟨.int k (bitsOf .xor k x y), _, by simp [binOp, Op.intArith, Op.intBits, Op.intCmp, bitsOf], hr, fun N => by simp only [AVR]⟩
  case andNot => exact ⟨.int k (bitsOf .andNot k x y), _, by simp [binOp, Op.intArith, Op.intBits, Op.intCmp, bitsOf], hr, fun N => by simp only [AVR]⟩
  case shl => exact absurd rfl ho.1
  case shr => exact absurd rfl ho.2
  case eql => exact ⟨.bool (decide (x = y)), _, by simp [binOp, Op.intArith, Op.intBits, Op.intCmp] <;> rfl, hr, fun N => by simp only [AVR]⟩
  case neq => exact ⟨.bool (!decide (x = y)), _, by simp [binOp, Op.intArith, Op.intBits, Op.intCmp] <;> rfl, hr, fun N => by simp only [AVR]⟩
  case lss => exact ⟨.bool (decide (x < y)), _, by simp [binOp, Op.intArith, Op.intBits, Op.intCmp], hr, fun N => by simp only [AVR]⟩
  case leq => exact ⟨.bool (decide (x ≤ y)), _, by simp [binOp, Op.intArith, Op.intBits, Op.intCmp], hr, fun N => by simp only [AVR]⟩
  case gtr => exact ⟨.bool (decide (x > y)), _, by simp [binOp, Op.intArith, Op.intBits, Op.intCmp], hr, fun N => by simp only [AVR]⟩
  case geq => exact ⟨.bool (decide (x ≥ y)), _, by simp [binOp, Op.intArith, Op.intBits, Op.intCmp], hr, fun N => by simp only [AVR]⟩
theorem listEq_iff : ∀ (a b : List UInt8), listEq a b = true ↔ a = b
  | [], [] => by simp [listEq]
  | [], _ :: _ => by simp [listEq]
  | _ :: _, [] => by simp [listEq]
  | a :: x, b :: y => by
    simp only [listEq, Bool.and_eq_true, listEq_iff x y, List.cons.injEq]
    constructor
    · rintro ⟨h1, h2⟩
      exact ⟨UInt8.toNat_inj.1 (Nat.eq_of_beq_eq_true h1), h2⟩
    · rintro ⟨rfl, h2⟩
      exact ⟨by simp, h2⟩
theorem strEq_iff (a b : ByteArray) : strEq a b = true ↔ a = b := by
  unfold strEq
  rw [listEq_iff]
  constructor
  · intro h
    cases a; cases b
    simp only [ByteArray.mk.injEq]
    exact Array.toList_inj.1 h
  · rintro rfl; rfl
theorem toList_data (a : ByteArray) : a.toList = a.data.toList := ByteArray.toList_eq a
theorem str_sim {op : BinOp} {x y : ByteArray} (hr : (binStr op x y).run nid h K = some r) (t : Nat) :
    ∃ val v, (binOp op t (.string x) (.string y)).run P w = .ok val w ∧ K v h nid = some r ∧ ∀ N, AVR G w N v val := by
  have he : (x.toList == y.toList) = strEq x y := by
    rw [Bool.eq_iff_iff, strEq_iff, beq_iff_eq, toList_data, toList_data]
    constructor
    · intro h; cases x; cases y; simp only [ByteArray.mk.injEq]; exact Array.toList_inj.1 h
    · rintro rfl; rfl
  have hl : Op.bytesLess x.toList y.toList = strLess x y := by rw [toList_data, toList_data]; rfl
  cases op <;> simp only [binStr, HM.run] at hr
  case add =>
    by_cases hs : x.size + y.size ≤ 9223372036854775807
    · simp only [hs, decide_true, cond_true] at hr
      exact ⟨.string (x ++ y), _, by simp [binOp, Op.stringOp, IntKind.max, IntKind.signed, IntKind.bits]; omega, hr, fun N => by simp only [AVR]⟩
    · simp [hs] at hr
  case eql => exact ⟨.bool (strEq x y), _, by simp [binOp, Op.stringOp, he], hr, fun N => by simp only [AVR]⟩
  case neq => exact ⟨.bool (!strEq x y), _, by simp [binOp, Op.stringOp, he], hr, fun N => by simp only [AVR]⟩
  case lss => exact ⟨.bool (strLess x y), _, by simp [binOp, Op.stringOp, hl], hr, fun N => by simp only [AVR]⟩
  case geq => exact ⟨.bool (!strLess x y), _, by simp [binOp, Op.stringOp, hl], hr, fun N => by simp only [AVR]⟩
  all_goals cases hr
theorem eqCells_append : ∀ {l1 m1 l2 m2 : List AV} {b : Bool}, l1.length = m1.length → eqCells (l1 ++ l2) (m1 ++ m2) = some b → ∃ b1 b2, eqCells l1 m1 = some b1 ∧ eqCells l2 m2 = some b2 ∧ b = (b1 && b2)
  | [], [], l2, m2, b, _, h => ⟨true, b, rfl, h, by simp⟩
  | x :: l1, y :: m1, l2, m2, b, hl, h => by
    have hl' : l1.length = m1.length := by simpa using hl
    cases x <;> cases y <;> simp only [List.cons_append, eqCells] at h <;> first | (cases h; done) | skip
    case int.int k x k' y =>
      cases hk : kindIs k k' with
      | false => rw [hk] at h; cases h
      | true =>
        rw [hk] at h
        simp only [cond_true, Option.map_eq_some_iff] at h
        obtain ⟨c, hc, rfl⟩ := h
        obtain ⟨b1, b2, h1, h2, rfl⟩ := eqCells_append hl' hc
        exact ⟨decide (x = y) && b1, b2, by simp [eqCells, hk, h1], h2, by simp [Bool.and_assoc]⟩
    case bool.bool x y =>
      simp only [Option.map_eq_some_iff] at h
      obtain ⟨c, hc, rfl⟩ := h
      obtain ⟨b1, b2, h1, h2, rfl⟩ := eqCells_append hl' hc
      exact ⟨(x == y) && b1, b2, by simp [eqCells, h1], h2, by simp [Bool.and_assoc]⟩
    case str.str x y =>
      simp only [Option.map_eq_some_iff] at h
      obtain ⟨c, hc, rfl⟩ := h
      obtain ⟨b1, b2, h1, h2, rfl⟩ := eqCells_append hl' hc
      exact ⟨strEq x y && b1, b2, by simp [eqCells, h1], h2, by simp [Bool.and_assoc]⟩
  | [], _ :: _, _, _, _, hl, _ => by simp at hl
  | _ :: _, [], _, _, _, hl, _ => by simp at hl
def TabOk (P : Program) (E : Env) : Prop := ∀ t i, look E.types t = some i → tdOk P t i
theorem run_part' {P : Program} {t : Nat} {j : TInfo} (hj : tdOk P t j) (xs : Array Value) (off : Nat) (hl : off + j.size ≤ xs.size) (w : World) :
    (part t xs off).run P w = .ok (mkVal j.agg ((xs.toList.drop off).take j.size)) w := by
  cases ha : j.agg with
  | true =>
    simp only [part, Sem.run_bind, hj.isAgg, ha, Result.andThen_ok, if_true, hj.sizeOf, Sem.run_pure, mkVal, cond_true]
    congr 2
    apply Array.ext'
    rw [Array.toList_extract]
    simp [List.extract, Nat.add_sub_cancel_left]
  | false =>
    have h1 := hj.one ha
    have hlt : off < xs.size := by omega
    simp only [part, Sem.run_bind, hj.isAgg, ha, Result.andThen_ok, Bool.false_eq_true, if_false, mkVal, cond_false, h1]
    rw [Array.getElem?_eq_getElem hlt]
    simp [List.take_one, List.getD_eq_getElem?_getD, hlt]
theorem eqFs_run {P : Program} {E : Env} (hE : TabOk P E) {G : Ge} {w : World} {N : Nat → Prop} (n d : Nat)
    (ih : ∀ t avx avy, eqTy E n t avx avy = true → ∃ i, look E.types t = some i ∧ ∀ xs ys b, AVRs G w N avx xs → AVRs G w N avy ys → eqCells avx avy = some b → (Op.equalIn d t (mkVal i.agg xs) (mkVal i.agg ys)).run P w = .ok b w)
    (X Y : Array Value) (m : Nat) (hX : X.size = m) (hY : Y.size = m) :
    ∀ (fs : List Field) (o : Nat) (avx avy : List AV) (b : Bool), (∀ f, f ∈ fs → f.name ≠ "_") → eqFs E (eqTy E n) o (fs.map fun f => (f.offset, f.type)) m avx avy = true → AVRs G w N avx (X.toList.drop o) → AVRs G w N avy (Y.toList.drop o) → eqCells avx avy = some b → (Op.eqFields d X Y fs).run P w = .ok b w
  | [], o, avx, avy, b, _, he, hx, hy, hb => by
    simp only [List.map_nil, eqFs] at he
    have he : o = m := Nat.eq_of_beq_eq_true he
    subst he
    rw [← hX, List.drop_eq_nil_of_le (by simp)] at hx
    rw [← hY, List.drop_eq_nil_of_le (by simp)] at hy
    have h1 := hx.length
    have h2 := hy.length
    simp only [List.length_nil, List.length_eq_zero_iff] at h1 h2
    subst h1; subst h2
    simp only [eqCells, Option.some.injEq] at hb
    subst hb
    simp [Op.eqFields]
  | f :: fs, o, avx, avy, b, hn, he, hx, hy, hb => by
    simp only [List.map_cons, eqFs, Bool.and_eq_true] at he
    obtain ⟨h1, h3⟩ := he
    have h1 : o = f.offset := Nat.eq_of_beq_eq_true h1
    cases hi : look E.types f.type with
    | none => rw [hi] at h3; cases h3
    | some i =>
      rw [hi] at h3
      simp only [Bool.and_eq_true] at h3
      obtain ⟨h2, h3⟩ := h3
      obtain ⟨i', hi', hrun⟩ := ih f.type _ _ h2
      rw [hi] at hi'
      injection hi' with hi'
      subst hi'
      have hge : ∀ (fs : List (Nat × Nat)) (o : Nat) (x y : List AV), eqFs E (eqTy E n) o fs m x y = true → o ≤ m := by
        intro fs
        induction fs with
        | nil => intro o x y h; simp only [eqFs] at h; exact Nat.le_of_eq (Nat.eq_of_beq_eq_true h)
        | cons a r ihr =>
          intro o x y h
          obtain ⟨a1, a2⟩ := a
          simp only [eqFs, Bool.and_eq_true] at h
          cases hl : look E.types a2 with
          | none => rw [hl] at h; simp at h
          | some j => rw [hl] at h; simp only [Bool.and_eq_true] at h; have := ihr _ _ _ h.2.2; omega
      have hle := hge _ _ _ _ h3
      have hax : avx = avx.take i.size ++ avx.drop i.size := (List.take_append_drop _ _).symm
      have hay : avy = avy.take i.size ++ avy.drop i.size := (List.take_append_drop _ _).symm
      rw [hax, hay] at hb
      have hlx := hx.length
      have hly := hy.length
      simp only [List.length_drop, Array.length_toList] at hlx hly
      obtain ⟨b1, b2, e1, e2, rfl⟩ := eqCells_append (by simp; omega) hb
      have r1 := hrun _ _ b1 (hx.take i.size) (hy.take i.size) e1
      have hdx := hx.drop i.size
      have hdy := hy.drop i.size
      rw [List.drop_drop] at hdx hdy
      have r2 := eqFs_run hE n d ih X Y m hX hY fs (o + i.size) _ _ b2 (fun g hg => hn g (List.mem_cons_of_mem _ hg)) h3 hdx hdy e2
      rw [Op.eqFields]
      simp only [if_pos (hn f List.mem_cons_self), Sem.run_bind, run_part' (hE _ _ hi) X f.offset (by omega) w, run_part' (hE _ _ hi) Y f.offset (by omega) w, Result.andThen_ok]
      rw [← h1, r1]
      simp only [Result.andThen_ok]
      cases b1
      · simp
      · simpa using r2
theorem eqTy_run {P : Program} {E : Env} (hE : TabOk P E) {G : Ge} {w : World} {N : Nat → Prop} : ∀ (n t : Nat) (avx avy : List AV), eqTy E n t avx avy = true → ∃ i, look E.types t = some i ∧ ∀ d, n ≤ d → ∀ xs ys b, AVRs G w N avx xs → AVRs G w N avy ys → eqCells avx avy = some b → (Op.equalIn d t (mkVal i.agg xs) (mkVal i.agg ys)).run P w = .ok b w
  | 0, t, _, _, h => by simp [eqTy] at h
  | n + 1, t, avx, avy, h => by
    simp only [eqTy] at h
    cases hl : look E.types t with
    | none => rw [hl] at h; cases h
    | some i =>
      rw [hl] at h
      refine ⟨i, rfl, fun d hd xs ys b rx ry hb => ?_⟩
      obtain ⟨d, rfl⟩ : ∃ d', d = d' + 1 := ⟨d - 1, by omega⟩
      have ht := hE t i hl
      obtain ⟨hinfo, hdesc⟩ := ht
      have one : ∀ (x : List Value) , x.length = 1 → ∃ v, x = [v] := fun x hx => by match x, hx with | [v], _ => exact ⟨v, rfl⟩
      cases hdd : i.desc with
      | int k =>
        simp only [hdd] at h hdesc
        have hag : i.agg = false := by simp [TInfo.agg, hdd]
        split at h
        · rename_i k1 x k2 y
          simp only [Bool.and_eq_true, kindIs, decide_eq_true_eq] at h
          obtain ⟨rfl, rfl⟩ := h
          obtain ⟨v, rfl⟩ := one xs rx.length.symm
          obtain ⟨u, rfl⟩ := one ys ry.length.symm
          simp only [AVRs, AVR, and_true] at rx ry
          subst rx; subst ry
          simp only [eqCells, kindIs, decide_true, cond_true, Option.map_some, Bool.and_true, Option.some.injEq] at hb
          subst hb
          simp [mkVal, hag, Op.equalIn, run_underlying hdesc.1]
          rfl
        · cases h
      | bool =>
        simp only [hdd] at h hdesc
        have hag : i.agg = false := by simp [TInfo.agg, hdd]
        split at h
        · rename_i x y
          obtain ⟨v, rfl⟩ := one xs rx.length.symm
          obtain ⟨u, rfl⟩ := one ys ry.length.symm
          simp only [AVRs, AVR, and_true] at rx ry
          subst rx; subst ry
          simp only [eqCells, Option.map_some, Bool.and_true, Option.some.injEq] at hb
          subst hb
          simp [mkVal, hag, Op.equalIn, run_underlying hdesc.1]
        · cases h
      | str =>
        simp only [hdd] at h hdesc
        have hag : i.agg = false := by simp [TInfo.agg, hdd]
        split at h
        · rename_i x y
          obtain ⟨v, rfl⟩ := one xs rx.length.symm
          obtain ⟨u, rfl⟩ := one ys ry.length.symm
          simp only [AVRs, AVR, and_true] at rx ry
          subst rx; subst ry
          simp only [eqCells, Option.map_some, Bool.and_true, Option.some.injEq] at hb
          subst hb
          have he : (x.toList == y.toList) = strEq x y := by
            rw [Bool.eq_iff_iff, strEq_iff, beq_iff_eq, toList_data, toList_data]
            constructor
            · intro h; cases x; cases y; simp only [ByteArray.mk.injEq]; exact Array.toList_inj.1 h
            · rintro rfl; rfl
          have := run_equalIn_string (P := P) w d t x y hdesc.1
          rw [he] at this
          simpa [mkVal, hag] using this
        · cases h
      | struct fs =>
        simp only [hdd] at h hdesc
        simp only [Bool.and_eq_true] at h
        obtain ⟨⟨hx, hy⟩, h⟩ := h
        have hx : xs.length = i.size := rx.length.symm.trans (Nat.eq_of_beq_eq_true hx)
        have hy : ys.length = i.size := ry.length.symm.trans (Nat.eq_of_beq_eq_true hy)
        obtain ⟨fields, h1, h2, h3, h4, h5, _⟩ := hdesc
        subst h2
        have hag : i.agg = true := by simp [TInfo.agg, hdd]
        simp only [mkVal, hag, cond_true]
        have hf : P.fieldsOf t = fields := by simp [Program.fieldsOf, h1]
        rw [run_equalIn_struct (P := P) w d t xs.toArray ys.toArray (by rw [hf]; exact h1) h4, hf]
        refine eqFs_run hE n d (fun t' ax ay ht' => ?_) xs.toArray ys.toArray i.size (by simpa using hx) (by simpa using hy) fields.toList 0 avx avy b h5 h (by simpa using rx) (by simpa using ry) hb
        obtain ⟨i', hi', hrun⟩ := eqTy_run hE n t' ax ay ht'
        refine ⟨i', hi', fun xs ys b r1 r2 hb => hrun d (by omega) xs ys b r1 r2 hb⟩
      | array _ _ => simp [hdd] at h
      | slice _ => simp [hdd] at h
      | ptr _ => simp [hdd] at h
      | other => simp [hdd] at h
end
end Go.TM

/- Operations that change nothing: numbers, texts, values, reads. -/
set_option linter.unusedVariables false
set_option linter.unusedSimpArgs false
namespace Go.TM
open Go
def Still {ρ : Type} (P : Program) (K : AV → List (Nat × Root) → Nat → Option ρ) (r : ρ) (h : List (Nat × Root)) (nid : Nat) (G : Ge) (w : World) (N : Nat → Prop) (s : Sem Value) : Prop :=
  ∃ val v, s.run P w = .ok val w ∧ K v h nid = some r ∧ AVR G w N v val
section
variable {P : Program} {E : Env} {c : Ctx} {h : List (Nat × Root)} {G : Ge} {w : World} {B : Nat → List Nat} {sl : Nat → AV} {vs : Nat → Value} {ρ : Type} {K : AV → List (Nat × Root) → Nat → Option ρ} {r : ρ} {nid : Nat} {N : Nat → Prop}
theorem Still.sim (I : Inv c h G w B Emp sl vs) {s : Sem Value} (hs : Still P K r h nid G w (NN c h B Emp) s) : OpSim P c K r G nid sl vs (do pure (Next.value (← s))) w := by
  obtain ⟨val, v, h1, h2, h3⟩ := hs
  exact OpSim.val I (run_v h1) h2 h3
theorem ite_run {b : Bool} {x : HM AV} (hr : (HM.ite b .fail x).run nid h K = some r) : b = false ∧ x.run nid h K = some r := by
  cases b
  · exact ⟨rfl, hr⟩
  · simp [HM.run] at hr
theorem ite_run' {α : Type} {K : α → List (Nat × Root) → Nat → Option ρ} {b : Bool} {x : HM α} (hr : (HM.ite b x .fail).run nid h K = some r) : b = true ∧ x.run nid h K = some r := by
  cases b
  · simp [HM.run] at hr
  · exact ⟨rfl, hr⟩
theorem bif_run {α : Type} {K : α → List (Nat × Root) → Nat → Option ρ} {b : Bool} {x : HM α} (hr : (bif b then x else .fail).run nid h K = some r) : b = true ∧ x.run nid h K = some r := by
  cases b
  · simp [HM.run] at hr
  · exact ⟨rfl, hr⟩
theorem lift_run {α β : Type} {K : α → List (Nat × Root) → Nat → Option ρ} {o : Option β} {k : β → HM α} (hr : (HM.lift o k).run nid h K = some r) : ∃ x, o = some x ∧ (k x).run nid h K = some r := by
  cases o with
  | none => simp [HM.run] at hr
  | some x => exact ⟨x, rfl, hr⟩
theorem get_run {α : Type} {K : α → List (Nat × Root) → Nat → Option ρ} {i : Nat} {k : Root → HM α} (hr : (HM.get i k).run nid h K = some r) : ∃ x, look h i = some x ∧ (k x).run nid h K = some r := by
  simp only [HM.run] at hr
  split at hr
  · rename_i x hx; exact ⟨x, hx, hr⟩
  · cases hr
theorem boolTy_ok (hE : TabOk P E) {t : Nat} (h : boolTy E t = true) : P.underlying t = some .bool := by
  unfold boolTy at h
  split at h
  · rename_i i hi
    have ht := (hE t i hi).2
    split at h
    · rename_i hd; rw [hd] at ht; exact ht.1
    · cases h
  · cases h
theorem strTy_ok (hE : TabOk P E) {t : Nat} (h : strTy E t = true) : P.underlying t = some .string := by
  unfold strTy at h
  split at h
  · rename_i i hi
    have ht := (hE t i hi).2
    split at h
    · rename_i hd; rw [hd] at ht; exact ht.1
    · cases h
  · cases h
theorem slTy_ok (hE : TabOk P E) {t n : Nat} (h : slTy E t n = true) : ∃ e, P.underlying t = some (.slice e) ∧ ∀ w, (Go.sizeOf e).run P w = .ok n w := by
  unfold slTy at h
  split at h
  · rename_i i hi
    have ht := (hE t i hi).2
    split at h
    · rename_i e hd
      rw [hd] at ht
      split at h
      · rename_i j hj
        refine ⟨e, ht.1, fun w => ?_⟩
        rw [← Nat.eq_of_beq_eq_true h]
        exact (hE e j hj).sizeOf
      · cases h
    · cases h
  · cases h
theorem slElem_ok (hE : TabOk P E) {t e : Nat} {j : TInfo} (h : slElem E t = some (e, j)) : P.underlying t = some (.slice e) ∧ tdOk P e j := by
  unfold slElem at h
  split at h
  · rename_i i hi
    have ht := (hE t i hi).2
    split at h
    · rename_i e' hd
      rw [hd] at ht
      split at h
      · rename_i j' hj
        injection h with h
        injection h with h1 h2
        subst h1; subst h2
        exact ⟨ht.1, hE _ _ hj⟩
      · cases h
    · cases h
  · cases h
theorem arTy_ok (hE : TabOk P E) {t m n : Nat} {one : Bool} (h : arTy E t m n one = true) : ∃ e j, P.underlying t = some (.array m e) ∧ look E.types e = some j ∧ j.size = n ∧ (one = true → j.agg = false) := by
  unfold arTy at h
  split at h
  · rename_i i hi
    have ht := (hE t i hi).2
    split at h
    · rename_i m' e hd
      rw [hd] at ht
      split at h
      · rename_i j hj
        simp only [Bool.and_eq_true] at h
        rw [Nat.eq_of_beq_eq_true h.1.1]
        exact ⟨e, j, ht, hj, Nat.eq_of_beq_eq_true h.1.2, fun ho => by have h2 := h.2; rw [ho] at h2; simpa using h2⟩
      · cases h
    · cases h
  · cases h
theorem stTy_ok (hE : TabOk P E) {t : Nat} {i : TInfo} (h : stTy E t = true) (hi : look E.types t = some i) : i.agg = true ∧ P.eqGuardType P.depth t = false := by
  unfold stTy at h
  rw [hi] at h
  have ht := (hE t i hi).2
  simp only at h
  split at h
  · rename_i fs hd
    rw [hd] at ht
    obtain ⟨fields, _, _, h3, _⟩ := ht
    exact ⟨by simp [TInfo.agg, hd], h3⟩
  · cases h
theorem agg_eq (hE : TabOk P E) {t : Nat} {x y : List AV} {b : Bool} (ht : (stTy E t && eqTy E 8 t x y) = true) (hb : eqCells x y = some b) {xa ya : Array Value} (hx : AVRs G w N x xa.toList) (hy : AVRs G w N y ya.toList) :
    P.eqGuardType P.depth t = false ∧ (Op.equal t (.agg xa) (.agg ya)).run P w = .ok b w := by
  rw [Bool.and_eq_true] at ht
  obtain ⟨i, hi, hrun⟩ := eqTy_run (G := G) (w := w) (N := N) hE 8 t x y ht.2
  obtain ⟨h1, h2⟩ := stTy_ok hE ht.1 hi
  refine ⟨h2, ?_⟩
  have h3 := hrun Op.maxDepth (by decide) xa.toList ya.toList b hx hy hb
  unfold Op.equal
  simpa [mkVal, h1] using h3
theorem bin_sim (hE : TabOk P E) {t : Nat} {op : BinOp} {a b : AV} {va vb : Value} (hr : (semBin E t op a b).run nid h K = some r) (ha : AVR G w N a va) (hb : AVR G w N b vb) (x y : Operand) :
    Still P K r h nid G w N (do eqGuard op t x y va vb; binOp op t va vb) := by
  unfold semBin at hr
  split at hr
  case h_1 k x' _ y' =>
    obtain ⟨hy, hr⟩ := ite_run hr
    simp only [AVR] at ha hb
    subst ha; subst hb
    simp only [decide_eq_false_iff_not] at hy
    exact ⟨.int k (shlOf k x' y'), _, by simp [eqGuard, binOp, Op.shift, hy, shlOf], hr, by simp only [AVR]⟩
  case h_2 k x' _ y' =>
    obtain ⟨hy, hr⟩ := ite_run hr
    simp only [AVR] at ha hb
    subst ha; subst hb
    simp only [decide_eq_false_iff_not] at hy
    exact ⟨.int k (shrOf k x' y'), _, by simp [eqGuard, binOp, Op.shift, hy, shrOf], hr, by simp only [AVR]⟩
  case h_3 k x' k' y' n1 n2 =>
    obtain ⟨hk, hr2⟩ := bif_run hr
    clear hr
    simp only [AVR] at ha hb
    simp only [kindIs, decide_eq_true_eq] at hk
    subst hk; subst ha; subst hb
    obtain ⟨val, v, e1, e2, e3⟩ := int_sim (P := P) (G := G) (w := w) hr2 ⟨n1, n2⟩ t
    exact ⟨val, v, by rw [eqGuard_at_int]; simpa using e1, e2, e3 N⟩
  case h_4 x' y' _ _ =>
    simp only [AVR] at ha hb
    subst ha; subst hb
    obtain ⟨val, v, e1, e2, e3⟩ := str_sim (P := P) (G := G) (w := w) hr t
    exact ⟨val, v, by rw [eqGuard_at_string]; simpa using e1, e2, e3 N⟩
  case h_5 x' y' =>
    obtain ⟨ht, hr⟩ := bif_run hr
    simp only [AVR] at ha hb
    subst ha; subst hb
    exact ⟨.bool (x' == y'), _, by simp [eqGuard, binOp, run_equal_bool w t x' y' (boolTy_ok hE ht)], hr, by simp only [AVR]⟩
  case h_6 x' y' =>
    obtain ⟨ht, hr⟩ := bif_run hr
    simp only [AVR] at ha hb
    subst ha; subst hb
    exact ⟨.bool (!(x' == y')), _, by simp [eqGuard, binOp, run_equal_bool w t x' y' (boolTy_ok hE ht)], hr, by simp only [AVR]⟩
  case h_7 x' y' =>
    obtain ⟨ht, hr⟩ := bif_run hr
    simp only [AVR] at ha hb
    obtain ⟨xa, rfl, _, hx⟩ := ha
    obtain ⟨ya, rfl, _, hy⟩ := hb
    split at hr
    · rename_i b heq
      obtain ⟨e1, e2⟩ := agg_eq hE ht heq hx hy
      exact ⟨.bool b, _, by simp [eqGuard, binOp, e1, e2], hr, by simp only [AVR]⟩
    · cases hr
  case h_8 x' y' =>
    obtain ⟨ht, hr⟩ := bif_run hr
    simp only [AVR] at ha hb
    obtain ⟨xa, rfl, _, hx⟩ := ha
    obtain ⟨ya, rfl, _, hy⟩ := hb
    split at hr
    · rename_i b heq
      obtain ⟨e1, e2⟩ := agg_eq hE ht heq hx hy
      exact ⟨.bool (!b), _, by simp [eqGuard, binOp, e1, e2], hr, by simp only [AVR]⟩
    · cases hr
  all_goals cases hr
theorem un_sim {op : UnOp} {a : AV} {va : Value} (hr : (semUn op a).run nid h K = some r) (ha : AVR G w N a va) : Still P K r h nid G w N (Op.unary op va) := by
  unfold semUn at hr
  split at hr
  · rename_i k x
    simp only [AVR] at ha
    subst ha
    exact ⟨.int k (k.wrap (0 - x)), _, by simp [Op.unary, Op.intArith], hr, by simp only [AVR]⟩
  · rename_i k x
    simp only [AVR] at ha
    subst ha
    exact ⟨.int k (bitsOf .xor k (if k.signed then -1 else k.max) x), _, by simp [Op.unary, Op.intBits, bitsOf], hr, by simp only [AVR]⟩
  · rename_i b
    simp only [AVR] at ha
    subst ha
    exact ⟨.bool (!b), _, by simp [Op.unary], hr, by simp only [AVR]⟩
  · cases hr
theorem AVRs.at {l : List AV} {vals : List Value} (h : AVRs G w N l vals) {i : Nat} {a : AV} (ha : l[i]? = some a) : ∃ v, vals[i]? = some v ∧ AVR G w N a v := h.get ha
theorem extract_sim {i : Nat} {a : AV} {va : Value} (hr : (match a with | .tup vs => (match vs[i]? with | some v => HM.ret v | none => .fail) | _ => .fail).run nid h K = some r) (ha : AVR G w N a va) : Still P K r h nid G w N (Instr.extract va i) := by
  split at hr
  · rename_i vs
    simp only [AVR] at ha
    obtain ⟨xs, rfl, hx⟩ := ha
    split at hr
    · rename_i v hv
      obtain ⟨u, e1, e2⟩ := hx.get hv
      exact ⟨u, v, by simp only [Instr.extract]; rw [← Array.getElem?_toList, e1]; rfl, hr, e2⟩
    · cases hr
  · cases hr
theorem fieldOf_ok (hE : TabOk P E) {t f : Nat} {o : Nat} {j : TInfo} (h : fieldOf E t f = some (o, j)) : ∃ fields fl, P.underlying t = some (.struct fields) ∧ fields[f]? = some fl ∧ fl.offset = o ∧ tdOk P fl.type j := by
  unfold fieldOf at h
  split at h
  · rename_i i hi
    have ht := (hE t i hi).2
    split at h
    · rename_i fs hd
      rw [hd] at ht
      obtain ⟨fields, h1, h2, _⟩ := ht
      split at h
      · rename_i g hg
        rw [← h2, List.getElem?_map] at hg
        simp only [Option.map_eq_some_iff] at hg h
        obtain ⟨fl, hfl, rfl⟩ := hg
        obtain ⟨j', hj', he⟩ := h
        injection he with he1 he2
        subst he1; subst he2
        exact ⟨fields, fl, h1, by rw [← Array.getElem?_toList]; exact hfl, rfl, hE _ _ hj'⟩
      · cases h
    · cases h
  · cases h
theorem mkVal_one {agg : Bool} {cs : List Value} (h1 : ∀ u, u ∈ cs → u.oneCell' = true) : ∀ u, u ∈ (cs : List Value) → u.oneCell' = true := h1
theorem field_sim (hE : TabOk P E) {t f : Nat} {a : AV} {va : Value} (hr : (semField E t f a).run nid h K = some r) (ha : AVR G w N a va) : Still P K r h nid G w N (Instr.field t va f) := by
  unfold semField at hr
  split at hr
  · rename_i o j cs hf
    obtain ⟨fields, fl, h1, h2, h3, h4⟩ := fieldOf_ok hE hf
    obtain ⟨hc, hr⟩ := bif_run hr
    simp only [Bool.and_eq_true, Nat.blt_eq, Nat.ble_eq] at hc
    simp only [AVR] at ha
    obtain ⟨xs, rfl, hx1, hx⟩ := ha
    have hl := hx.length
    simp only [Array.length_toList] at hl
    refine ⟨mkVal j.agg ((xs.toList.drop o).take j.size), _, ?_, hr, avr_mk ((hx.drop o).take j.size) (fun u hu => hx1 u (List.mem_of_mem_drop (List.mem_of_mem_take hu))) (fun hag => ?_)⟩
    · have := run_part' h4 xs o (by omega) w
      subst h3
      simp [Instr.field, run_underlying h1, h2, asAgg, this]
    · have := h4.one hag
      simp only [List.length_take, List.length_drop, Array.length_toList]
      omega
  · cases hr
theorem fieldAddr_sim (hE : TabOk P E) {t f : Nat} {a : AV} {va : Value} (hr : (semFieldAddr E t f a).run nid h K = some r) (ha : AVR G w N a va) : Still P K r h nid G w N (Instr.fieldAt t va f) := by
  unfold semFieldAddr at hr
  split at hr
  · rename_i o j hf
    obtain ⟨fields, fl, h1, h2, h3, h4⟩ := fieldOf_ok hE hf
    cases hz : Nat.beq j.size 0 with
    | true => rw [hz] at hr; cases hr
    | false =>
      rw [hz] at hr
      simp only [cond_false] at hr
      have hz' : j.size ≠ 0 := fun e => by rw [e] at hz; cases hz
      have hrun : ∀ ad : Addr, (Instr.fieldAt t (.pointer (some ad)) f).run P w = .ok (.pointer (some (ad.add o))) w := by
        intro ad
        simp [Instr.fieldAt, run_underlying h1, h2, Instr.sureAddr, fieldPlace, h4.sizeOf, hz', h3]
      have hadd : ∀ (g off : Nat), (⟨g, off, none⟩ : Addr).add o = ⟨g, off + o, none⟩ := by
        intro g off; unfold Addr.add; split
        · rename_i e; subst e; rfl
        · rfl
      split at hr
      · rename_i q off
        simp only [AVR] at ha
        obtain ⟨hd, g, hL, rfl⟩ := ha
        exact ⟨_, _, hrun _, hr, by simp only [AVR]; exact ⟨hd, g, hL, by rw [hadd]⟩⟩
      · rename_i q x off
        simp only [AVR] at ha
        obtain ⟨hd, g, hL, rfl⟩ := ha
        exact ⟨_, _, hrun _, hr, by simp only [AVR]; exact ⟨hd, g, hL, by rw [hadd, Nat.add_assoc]⟩⟩
      · rename_i k e off
        simp only [AVR] at ha
        obtain ⟨rs, ad, cs, e1, e2, e3, e4, rfl⟩ := ha
        exact ⟨_, _, hrun _, hr, by simp only [AVR]; exact ⟨rs, ad, cs, e1, e2, e3, e4, by rw [add_add]⟩⟩
      · cases hr
  · cases hr
end
section
variable {P : Program} {E : Env} {G : Ge} {w : World} {N : Nat → Prop}
theorem isL_pair_left {a b : K} {o : Nat} (h : o < a.size) : isL (.pair a b) o = isL a o := by
  simp only [isL]; rw [show Nat.blt o a.size = true from by rw [Nat.blt_eq]; exact h]; rfl
theorem isL_pair_right {a b : K} {o : Nat} : isL (.pair a b) (a.size + o) = isL b o := by
  have : Nat.blt (a.size + o) a.size = false := by
    cases hb : Nat.blt (a.size + o) a.size with
    | false => rfl
    | true => rw [Nat.blt_eq] at hb; omega
  simp only [isL, this, cond_false, Nat.add_sub_cancel_left]
theorem isL_lt : ∀ {k : K} {o : Nat}, isL k o = true → o < k.size
  | .list _, 0, _ => Nat.zero_lt_one
  | .list _, _ + 1, h => by simp [isL] at h
  | .pair a b, o, h => by
    by_cases ho : o < a.size
    · simp only [K.size]; omega
    · obtain ⟨o', rfl⟩ : ∃ o', o = a.size + o' := ⟨o - a.size, by omega⟩
      rw [isL_pair_right] at h
      have := isL_lt h
      simp only [K.size]; omega
  | .int _, _, h => by simp [isL] at h
  | .bool, _, h => by simp [isL] at h
  | .str, _, h => by simp [isL] at h
  | .arr _ _, _, h => by simp [isL] at h
theorem isL_flat : ∀ {k : K} {o : Nat}, k.flat = true → isL k o = false
  | .list _, _, h => by simp [K.flat] at h
  | .pair a b, o, h => by
    simp only [K.flat, Bool.and_eq_true] at h
    simp only [isL]
    cases Nat.blt o a.size
    · exact isL_flat h.2
    · exact isL_flat h.1
  | .int _, _, _ => rfl
  | .bool, _, _ => rfl
  | .str, _, _ => rfl
  | .arr _ _, _, _ => rfl
theorem avrs_expE {j g : Nat} {x : Int} (hd : G.D j) (hg : g = 0 ∨ G.D g) : ∀ (k : K) (off : Nat) (e : k.T) (cs : List Value) (b : List Nat), Own k w b e cs → (∀ o, isL k o = true → cs[o]? = some (G.HD j g (x.toNat * (G.KJ j).size + (off + o)))) → AVRs G w N (expE j g x off k e) cs ∧ ∀ u, u ∈ cs → u.oneCell' = true
  | .int k, off, e, cs, b, h, _ => by simp only [Own] at h; rw [h.2]; simp [expE, AVRs, AVR, Value.oneCell']
  | .bool, off, e, cs, b, h, _ => by simp only [Own] at h; rw [h.2]; simp [expE, AVRs, AVR, Value.oneCell']
  | .str, off, e, cs, b, h, _ => by simp only [Own] at h; rw [h.2]; simp [expE, AVRs, AVR, Value.oneCell']
  | .arr _ _, off, e, cs, b, h, _ => by simp only [Own] at h
  | .list k, off, e, cs, b, h, hh => by
    simp only [Own] at h
    obtain ⟨v, rfl, hv⟩ := h
    have h0 := hh 0 rfl
    simp only [List.getElem?_cons_zero, Option.some.injEq, Nat.add_zero] at h0
    have h1 : v.oneCell' = true := by
      rcases hv with ⟨rfl, _⟩ | ⟨_, _, _, _, _, _, rfl, _⟩ <;> simp [Value.oneCell']
    simp only [expE, AVRs, AVR, and_true]
    exact ⟨⟨hd, h0, h1, hg⟩, by simpa using h1⟩
  | .pair a b', off, e, cs, b, h, hh => by
    simp only [Own] at h
    obtain ⟨b1, b2, c1, c2, rfl, rfl, h1, h2⟩ := h
    have hl := h1.len
    obtain ⟨r1, s1⟩ := avrs_expE hd hg a off e.1 c1 b1 h1 (fun o ho => by
      have hlt := isL_lt ho
      rw [← hh o (by rw [isL_pair_left hlt]; exact ho), List.getElem?_append_left (by omega)])
    obtain ⟨r2, s2⟩ := avrs_expE hd hg b' (off + a.size) e.2 c2 b2 h2 (fun o ho => by
      have := hh (a.size + o) (by rw [isL_pair_right]; exact ho)
      rw [List.getElem?_append_right (by omega), hl, Nat.add_sub_cancel_left] at this
      rw [this, Nat.add_assoc])
    simp only [expE]
    exact ⟨r1.append r2, fun u hu => (List.mem_append.1 hu).elim (s1 u) (s2 u)⟩
theorem avrs_expE_flat {j g : Nat} {x : Int} {rs : List Nat} : ∀ (k : K) (off : Nat) (e : k.T) (cs : List Value), k.flat = true → k.noArr = true → RO k w rs e cs → AVRs G w N (expE j g x off k e) cs ∧ ∀ u, u ∈ cs → u.oneCell' = true
  | .int k, off, e, cs, _, _, h => by simp only [RO] at h; rw [h]; simp [expE, AVRs, AVR, Value.oneCell']
  | .bool, off, e, cs, _, _, h => by simp only [RO] at h; rw [h]; simp [expE, AVRs, AVR, Value.oneCell']
  | .str, off, e, cs, _, _, h => by simp only [RO] at h; rw [h]; simp [expE, AVRs, AVR, Value.oneCell']
  | .arr _ _, off, e, cs, _, ha, h => by simp [K.noArr] at ha
  | .list k, off, e, cs, hf, _, h => by simp [K.flat] at hf
  | .pair a b', off, e, cs, hf, ha, h => by
    simp only [K.flat, K.noArr, Bool.and_eq_true] at hf ha
    simp only [RO] at h
    obtain ⟨c1, c2, rfl, h1, h2⟩ := h
    obtain ⟨r1, s1⟩ := avrs_expE_flat a off e.1 c1 hf.1 ha.1 h1
    obtain ⟨r2, s2⟩ := avrs_expE_flat b' (off + a.size) e.2 c2 hf.2 ha.2 h2
    simp only [expE]
    exact ⟨r1.append r2, fun u hu => (List.mem_append.1 hu).elim (s1 u) (s2 u)⟩
theorem avrs_expR {rs : List Nat} (hrs : ∀ b, b ∈ rs → ¬ N b ∧ b < w.heap.size) : ∀ (k : K) (e : k.T) (cs : List Value), k.noArr = true → RO k w rs e cs → AVRs G w N (expR k e) cs ∧ ∀ u, u ∈ cs → u.oneCell' = true
  | .int k, e, cs, _, h => by simp only [RO] at h; rw [h]; simp [expR, AVRs, AVR, Value.oneCell']
  | .bool, e, cs, _, h => by simp only [RO] at h; rw [h]; simp [expR, AVRs, AVR, Value.oneCell']
  | .str, e, cs, _, h => by simp only [RO] at h; rw [h]; simp [expR, AVRs, AVR, Value.oneCell']
  | .arr _ _, e, cs, ha, h => by simp [K.noArr] at ha
  | .list k, e, cs, _, h => by
    have h' := h
    simp only [RO] at h
    obtain ⟨A, c, rfl, _⟩ := h
    simp only [expR, AVRs, AVR, and_true]
    exact ⟨⟨rs, h', hrs⟩, by simp [Value.oneCell']⟩
  | .pair a b', e, cs, ha, h => by
    simp only [K.noArr, Bool.and_eq_true] at ha
    simp only [RO] at h
    obtain ⟨c1, c2, rfl, h1, h2⟩ := h
    obtain ⟨r1, s1⟩ := avrs_expR hrs a e.1 c1 ha.1 h1
    obtain ⟨r2, s2⟩ := avrs_expR hrs b' e.2 c2 ha.2 h2
    simp only [expR]
    exact ⟨r1.append r2, fun u hu => (List.mem_append.1 hu).elim (s1 u) (s2 u)⟩
theorem own_elem {k : K} {w : World} {bs : List Nat} {xs : List k.T} {v : Value} (h : Own (.list k) w bs xs [v]) {q : Nat} {e : k.T} (he : xs[q]? = some e) : ∃ g cs b, blockOf v = some g ∧ g ∈ bs ∧ Own k w b e cs ∧ (∀ b', b' ∈ b → b' ∈ bs) ∧ ∀ o u, cs[o]? = some u → w.cell? ⟨g, q * k.size + o, none⟩ = some u := by
  simp only [Own] at h
  obtain ⟨v', h1, h2⟩ := h
  injection h1 with h1
  subst h1
  obtain ⟨hq, rfl⟩ := List.getElem?_eq_some_iff.1 he
  rcases h2 with ⟨rfl, rfl, _⟩ | ⟨g, cap, cur, ty, fr, bss, rfl, e2, e3, e4, e5, e6, e7, e8, e9⟩
  · simp at hq
  · obtain ⟨b, hb, ho⟩ := e9 q hq
    refine ⟨g, _, b, rfl, by rw [e7]; exact List.mem_cons_self, ho, fun b' hb' => ?_, fun o u hu => ?_⟩
    · rw [e7]
      exact List.mem_cons_of_mem _ (List.mem_flatten.2 ⟨b, List.mem_of_getElem? hb, hb'⟩)
    · have := take_get _ _ _ _ _ hu
      simp only [World.cell?, e2]
      simpa using this
theorem idx_some {α : Type} {xs : List α} {i : Int} {e : α} (h : idx xs i = some e) : 0 ≤ i ∧ xs[i.toNat]? = some e := by
  unfold idx at h
  by_cases hi : 0 ≤ i
  · simp only [hi, decide_true, cond_true] at h; exact ⟨hi, h⟩
  · simp [hi] at h
end
section
variable {P : Program} {E : Env} {c : Ctx} {h : List (Nat × Root)} {G : Ge} {w : World} {B : Nat → List Nat} {sl : Nat → AV} {vs : Nat → Value} {ρ : Type} {K : AV → List (Nat × Root) → Nat → Option ρ} {r : ρ} {nid : Nat} {N : Nat → Prop}
theorem load_cells {t : Nat} {i : TInfo} (ht : tdOk P t i) {ad : Addr} {avs : List AV} {cs : List Value} {off : Nat} (hx : AVRs G w N avs cs) (h1 : ∀ u, u ∈ cs → u.oneCell' = true) (h0 : 0 < i.size) (hl : off + i.size ≤ avs.length) (hc : ∀ q u, cs[q]? = some u → w.cell? (ad.add q) = some u) (hr : K (mkV i.agg ((avs.drop off).take i.size)) h nid = some r) :
    Still P K r h nid G w N (loadVar t (ad.add off)) := by
  have hlen := hx.length
  refine ⟨mkVal i.agg ((cs.drop off).take i.size), _, run_loadVar_cells ht h0 (ad.add off) _ (by simp only [List.length_take, List.length_drop]; omega) (fun q u hu => ?_), hr, avr_mk ((hx.drop off).take i.size) (fun u hu => h1 u (List.mem_of_mem_drop (List.mem_of_mem_take hu))) (fun hag => ?_)⟩
  · rw [add_add]
    exact hc _ _ (take_get _ _ _ _ _ hu)
  · have := ht.one hag
    simp only [List.length_take, List.length_drop]
    omega
theorem load_sim (I : Inv c h G w B Emp sl vs) (hE : TabOk P E) {t : Nat} {a : AV} {va : Value} (hr : (semLoad E t a).run nid h K = some r) (ha : AVR G w (NN c h B Emp) a va) : Still P K r h nid G w (NN c h B Emp) (Instr.loadAt t va) := by
  unfold semLoad at hr
  split at hr
  · rename_i i hi
    have ht := hE t i hi
    have hrun : ∀ ad : Addr, Instr.loadAt t (.pointer (some ad)) = loadVar t ad := fun ad => rfl
    have hz : ∀ (g off : Nat), (⟨g, 0, none⟩ : Addr).add off = ⟨g, off, none⟩ := fun g off => by rw [add_plain]
    split at hr
    · rename_i q off
      simp only [AVR] at ha
      obtain ⟨hd, g, hL, rfl⟩ := ha
      obtain ⟨root, hlook, hr⟩ := get_run hr
      obtain ⟨_, hroot⟩ := I.root q root hlook
      rw [hrun, ← hz]
      cases root with
      | list => cases hr
      | box cs =>
        obtain ⟨hc, hr⟩ := bif_run hr
        simp only [Bool.and_eq_true, Nat.blt_eq, Nat.ble_eq] at hc
        simp only [RootR] at hroot
        obtain ⟨g', cur, ty, h1, _, h3, h4, h5⟩ := hroot
        rw [hL] at h1
        injection h1 with h1; injection h1 with h1; injection h1 with h1; subst h1
        exact load_cells ht h5 h4 hc.1 hc.2 (fun q u hu => by rw [hz]; simp only [World.cell?, h3]; simpa using hu) hr
      | arr n k xs =>
        obtain ⟨hc, hr2⟩ := bif_run hr
        clear hr
        simp only [Bool.and_eq_true] at hc
        obtain ⟨⟨h01, h02⟩, hag⟩ := hc
        have h01 := Nat.eq_of_beq_eq_true h01
        have h02 := Nat.eq_of_beq_eq_true h02
        subst h01
        simp only [RootR] at hroot
        obtain ⟨_, _, g', cur, ty, h1, _, h3, h4⟩ := hroot
        rw [hL] at h1
        injection h1 with h1; injection h1 with h1; injection h1 with h1; subst h1
        have h4' := h4
        simp only [RO] at h4'
        refine ⟨.agg cur, _, ?_, hr2, ?_⟩
        · have hl : cur.toList.length = i.size := h4'.2.1.trans h02
          have := run_loadCells_list (P := P) w (⟨g, 0, none⟩ : Addr) cur.toList (fun q u hu => by rw [hz]; simp only [World.cell?, h3]; simpa using hu)
          rw [hl] at this
          simp [loadVar, ht.isAgg, hag, ht.sizeOf, hz, this]
        · simp only [AVR]
          exact ⟨[], cur, rfl, h4, fun b hb => by cases hb⟩
    · rename_i j x off
      simp only [AVR] at ha
      obtain ⟨hd, g, hL, rfl⟩ := ha
      obtain ⟨root, hlook, hr⟩ := get_run hr
      obtain ⟨_, hroot⟩ := I.root j root hlook
      rw [hrun]
      cases root with
      | box => cases hr
      | list gen k xs =>
        obtain ⟨e, he, hr⟩ := lift_run hr
        obtain ⟨hc, hr⟩ := bif_run hr
        simp only [Bool.and_eq_true, Nat.blt_eq, Nat.ble_eq] at hc
        simp only [RootR] at hroot
        obtain ⟨hk, hown, hhd, hgen⟩ := hroot
        subst hk
        obtain ⟨hx0, he⟩ := idx_some he
        obtain ⟨g', cs, b, e1, e2, e3, e4, e5⟩ := own_elem hown he
        rw [hL] at e1
        injection e1 with e1
        subst e1
        have hlt : x.toNat < xs.length := (List.getElem?_eq_some_iff.1 he).1
        obtain ⟨r1, r2⟩ := avrs_expE (G := G) (w := w) (N := NN c h B Emp) (j := j) (g := gen) (x := x) hd hgen _ 0 e cs b e3 (fun o ho => by
          have h1 := hhd g hL x.toNat hlt o ho
          have h2 : o < cs.length := by rw [e3.len]; exact isL_lt ho
          have h3 := e5 o _ (List.getElem?_eq_getElem h2)
          rw [h1] at h3
          rw [Nat.zero_add, List.getElem?_eq_getElem h2, h3])
        have := load_cells (ad := ⟨g, x.toNat * (G.KJ j).size, none⟩) (off := off) ht r1 r2 hc.1 (by rw [r1.length, e3.len]; exact hc.2) (fun q u hu => by
          have := e5 q u hu
          rw [show (⟨g, x.toNat * (G.KJ j).size, none⟩ : Addr).add q = ⟨g, x.toNat * (G.KJ j).size + q, none⟩ from by
            unfold Addr.add; split
            · rename_i e; subst e; rfl
            · rfl]
          exact this) hr
        rwa [show (⟨g, x.toNat * (G.KJ j).size, none⟩ : Addr).add off = ⟨g, x.toNat * (G.KJ j).size + off, none⟩ from by
            unfold Addr.add; split
            · rename_i e; subst e; rfl
            · rfl] at this
      | arr n k xs =>
        obtain ⟨e, he, hr⟩ := lift_run hr
        obtain ⟨hc, hr⟩ := bif_run hr
        simp only [Bool.and_eq_true, Nat.blt_eq, Nat.ble_eq] at hc
        simp only [RootR] at hroot
        obtain ⟨hk, hfl, g', cur, ty, h1, _, h3, h4⟩ := hroot
        subst hk
        rw [h1] at hL
        simp only [blockOf, Option.some.injEq] at hL
        subst hL
        obtain ⟨hx0, he⟩ := idx_some he
        obtain ⟨hlt, rfl⟩ := List.getElem?_eq_some_iff.1 he
        simp only [RO] at h4
        have hel := h4.2.2 x.toNat hlt
        obtain ⟨r1, r2⟩ := avrs_expE_flat (G := G) (w := w) (N := NN c h B Emp) (j := j) (g := 0) (x := x) _ 0 _ _ hfl hc.1.1 hel
        have := load_cells (ad := ⟨g', x.toNat * (G.KJ j).size, none⟩) (off := off) ht r1 r2 hc.1.2 (by rw [r1.length, hel.len]; exact hc.2) (fun q u hu => by
          have := take_get _ _ _ _ _ hu
          rw [show (⟨g', x.toNat * (G.KJ j).size, none⟩ : Addr).add q = ⟨g', x.toNat * (G.KJ j).size + q, none⟩ from by
            unfold Addr.add; split
            · rename_i e; subst e; rfl
            · rfl]
          simp only [World.cell?, h3]
          simpa using this) hr
        rwa [show (⟨g', x.toNat * (G.KJ j).size, none⟩ : Addr).add off = ⟨g', x.toNat * (G.KJ j).size + off, none⟩ from by
            unfold Addr.add; split
            · rename_i e; subst e; rfl
            · rfl] at this
    · rename_i k e off
      simp only [AVR] at ha
      obtain ⟨rs, ad, cs, e1, e2, e3, e4, rfl⟩ := ha
      obtain ⟨hc, hr⟩ := bif_run hr
      simp only [Bool.and_eq_true, Nat.blt_eq, Nat.ble_eq] at hc
      rw [hrun]
      obtain ⟨r1, r2⟩ := avrs_expR (G := G) e2 k e cs hc.1.1 e1
      exact load_cells ht r1 r2 hc.1.2 (by rw [r1.length, e1.len]; exact hc.2) e4 hr
    · cases hr
  · cases hr
theorem run_indexAt_sl {t e n : Nat} (ht : P.underlying t = some (.slice e)) (hs : (Go.sizeOf e).run P w = .ok n w) {ad : Addr} {len cap : Nat} {k : IntKind} {i : Int} (h0 : 0 ≤ i) (h1 : i < len) :
    (Instr.indexAt t (.slice (some ad) len cap) (.int k i)).run P w = .ok (.pointer (some (ad.add (i.toNat * n)))) w := by
  simp [Instr.indexAt, asIntOf, run_underlying ht, h0, h1, hs]
theorem run_indexAt_ar {t e m n : Nat} (ht : P.underlying t = some (.array m e)) (hs : (Go.sizeOf e).run P w = .ok n w) {ad : Addr} {k : IntKind} {i : Int} (h0 : 0 ≤ i) (h1 : i < m) :
    (Instr.indexAt t (.pointer (some ad)) (.int k i)).run P w = .ok (.pointer (some (ad.add (i.toNat * n)))) w := by
  simp [Instr.indexAt, asIntOf, run_underlying ht, Instr.sureAddr, h0, h1, hs]
theorem add_blk (g o n : Nat) : (⟨g, o, none⟩ : Addr).add n = ⟨g, o + n, none⟩ := by
  unfold Addr.add; split
  · rename_i e; subst e; rfl
  · rfl
theorem indexAddr_sim (I : Inv c h G w B Emp sl vs) (hE : TabOk P E) {t : Nat} {a ix : AV} {va vi : Value} (hr : (semIndexAddr E t a ix).run nid h K = some r) (ha : AVR G w (NN c h B Emp) a va) (hi : AVR G w (NN c h B Emp) ix vi) : Still P K r h nid G w (NN c h B Emp) (Instr.indexAt t va vi) := by
  unfold semIndexAddr at hr
  split at hr
  · rename_i ki i
    simp only [AVR] at hi
    subst hi
    split at hr
    · rename_i k xs
      obtain ⟨hc, hr⟩ := bif_run hr
      obtain ⟨e, ht, hs⟩ := slTy_ok hE hc
      obtain ⟨x, hx, hr⟩ := lift_run hr
      obtain ⟨h0, hx⟩ := idx_some hx
      obtain ⟨hlt, rfl⟩ := List.getElem?_eq_some_iff.1 hx
      simp only [AVR] at ha
      obtain ⟨rs, h1, h2⟩ := ha
      simp only [RO] at h1
      obtain ⟨A, cc, e1, e2, e3⟩ := h1
      injection e1 with e1
      subst e1
      obtain ⟨ad, el, e4, e5, e6, e7⟩ := e3 i.toNat hlt
      subst e4
      refine ⟨_, _, run_indexAt_sl ht (hs w) h0 (by omega), hr, ?_⟩
      simp only [AVR]
      exact ⟨rs, ad.add (i.toNat * k.size), el, e6, h2, by rw [add_block]; exact e5, fun q u hu => by rw [add_add]; exact e7 q u hu, by rw [add_add, Nat.add_zero]⟩
    · rename_i j
      obtain ⟨root, hlook, hr⟩ := get_run hr
      cases root with
      | box => cases hr
      | arr => cases hr
      | list gen k xs =>
        obtain ⟨hc, hr⟩ := bif_run hr
        obtain ⟨e, ht, hs⟩ := slTy_ok hE hc
        obtain ⟨hb, hr⟩ := ite_run' hr
        simp only [Bool.and_eq_true, decide_eq_true_eq] at hb
        obtain ⟨hd, hroot⟩ := I.root j _ hlook
        simp only [RootR] at hroot
        obtain ⟨hk, hown, _⟩ := hroot
        simp only [AVR] at ha
        obtain ⟨_, rfl, _⟩ := ha
        simp only [Own] at hown
        obtain ⟨v, e1, e2⟩ := hown
        injection e1 with e1
        rcases e2 with ⟨_, rfl, _⟩ | ⟨g, cap, cur, ty, fr, bss, rfl, _⟩
        · simp at hb; omega
        · rw [e1]
          refine ⟨_, _, run_indexAt_sl ht (hs w) hb.1 hb.2, hr, ?_⟩
          simp only [AVR]
          exact ⟨hd, g, by rw [e1]; rfl, by rw [add_plain, hk, Nat.add_zero]⟩
    · rename_i j lo n
      obtain ⟨root, hlook, hr⟩ := get_run hr
      cases root with
      | box => cases hr
      | arr => cases hr
      | list gen k xs =>
        obtain ⟨hc, hr⟩ := bif_run hr
        obtain ⟨e, ht, hs⟩ := slTy_ok hE hc
        obtain ⟨hb, hr⟩ := ite_run' hr
        simp only [Bool.and_eq_true, decide_eq_true_eq] at hb
        obtain ⟨hd, hroot⟩ := I.root j _ hlook
        simp only [RootR] at hroot
        obtain ⟨hk, hown, _⟩ := hroot
        simp only [AVR] at ha
        obtain ⟨_, A, len, cap, A', cc, hL, hlo, rfl, hm, hA, _⟩ := ha
        simp only [Own] at hown
        obtain ⟨v, e1, e2⟩ := hown
        injection e1 with e1
        rw [hL] at e1
        rcases e2 with ⟨rfl, rfl, _⟩ | ⟨g, cap', cur, ty, fr, bss, rfl, _⟩
        · simp at hb; omega
        · injection e1 with e1 e3 e4
          have := hA (by omega)
          subst e1
          simp only [Option.map_some] at this
          subst this
          rw [add_plain]
          refine ⟨_, _, run_indexAt_sl ht (hs w) hb.1.1 hb.1.2, hr, ?_⟩
          simp only [AVR]
          refine ⟨hd, g, by rw [hL]; rfl, ?_⟩
          rw [add_blk, hk, Nat.add_zero, ← Nat.add_mul]
          congr 4
          omega
    · rename_i q
      obtain ⟨root, hlook, hr⟩ := get_run hr
      cases root with
      | box => cases hr
      | list => cases hr
      | arr n k xs =>
        obtain ⟨hc, hr⟩ := bif_run hr
        obtain ⟨e, j, ht, hj, hs, _⟩ := arTy_ok hE hc
        obtain ⟨hb, hr⟩ := ite_run' hr
        simp only [Bool.and_eq_true, decide_eq_true_eq] at hb
        obtain ⟨hd, hroot⟩ := I.root q _ hlook
        simp only [RootR] at hroot
        obtain ⟨hk, _, _⟩ := hroot
        simp only [AVR] at ha
        obtain ⟨_, g, hL, rfl⟩ := ha
        refine ⟨_, _, run_indexAt_ar ht ((hE e j hj).sizeOf) hb.1 hb.2, hr, ?_⟩
        simp only [AVR]
        exact ⟨hd, g, by rw [hL]; rfl, by rw [add_plain, hk, Nat.add_zero, hs]⟩
    · cases hr
  · cases hr
theorem index_sim (hE : TabOk P E) {t : Nat} {a ix : AV} {va vi : Value} (hr : (semIndex E t a ix).run nid h K = some r) (ha : AVR G w N a va) (hi : AVR G w N ix vi) : Still P K r h nid G w N (Instr.index t va vi) := by
  unfold semIndex at hr
  split at hr
  · rename_i s k i
    simp only [AVR] at ha hi
    subst ha; subst hi
    obtain ⟨hc, hr⟩ := bif_run hr
    obtain ⟨x, hx, hr⟩ := lift_run hr
    have ht := strTy_ok hE hc
    unfold byteAt at hx
    by_cases h0 : 0 ≤ i
    · simp only [h0, decide_true, cond_true, Option.map_eq_some_iff] at hx
      obtain ⟨b, hb, rfl⟩ := hx
      have hb' : s[i.toNat]? = some b := by
        obtain ⟨h1, h2⟩ := List.getElem?_eq_some_iff.1 hb
        have h3 : i.toNat < s.size := by rw [Array.length_toList] at h1; exact h1
        rw [getElem?_pos s i.toNat h3]
        rw [← h2]
        rfl
      exact ⟨.int .u8 b.toNat, _, by
        simp only [Instr.index, Sem.run_bind, asIntOf, Sem.run_pure, Result.andThen_ok, run_underlying ht]
        rw [if_pos h0, hb']
        rfl, hr, by simp only [AVR]⟩
    · simp [h0] at hx
  · rename_i n k xs ki i
    simp only [AVR] at ha hi
    subst hi
    obtain ⟨rs, cs, rfl, h1, h2⟩ := ha
    obtain ⟨hc, hr⟩ := bif_run hr
    simp only [Bool.and_eq_true] at hc
    obtain ⟨⟨hc1, hc2⟩, hc3⟩ := hc
    have hc2 := Nat.eq_of_beq_eq_true hc2
    obtain ⟨e, j, ht, hj, hs, hone⟩ := arTy_ok hE hc1
    obtain ⟨x, hx, hr⟩ := lift_run hr
    obtain ⟨h0, hx⟩ := idx_some hx
    obtain ⟨hlt, rfl⟩ := List.getElem?_eq_some_iff.1 hx
    simp only [RO] at h1
    obtain ⟨e1, e2, e3⟩ := h1
    have hel := e3 i.toNat hlt
    have hin : i < n := by rw [e1] at hlt; omega
    obtain ⟨r1, r2⟩ := avrs_expR (G := G) h2 k _ _ hc3 hel
    have htj := hE e j hj
    have hl2 := hel.len
    simp only [List.length_take, List.length_drop] at hl2
    have hp := run_part' htj cs (i.toNat * k.size) (by rw [hs]; simp only [Array.length_toList] at hl2; omega) w
    rw [hone rfl, hs] at hp
    refine ⟨_, _, ?_, hr, avr_mk (agg := false) r1 r2 (fun _ => by rw [hel.len]; exact hc2)⟩
    rw [← hp]
    simp [Instr.index, asIntOf, run_underlying ht, h0, hin, htj.sizeOf, hs]
  · cases hr
theorem lenIn_out : ∀ (k : TM.K) (e : k.T) (off : Nat) {K : AV → List (Nat × Root) → Nat → Option ρ} {b : List Nat} {cs : List Value}, (lenIn k e off).run nid h K = some r → Own k w b e cs → ∃ A n cap, cs[off]? = some (.slice A n cap) ∧ isL k off = true ∧ K (.int .i64 n) h nid = some r
  | .list k, x, 0, _, b, cs, hr, ho => by
    simp only [Own] at ho
    obtain ⟨v, rfl, hv⟩ := ho
    rcases hv with ⟨rfl, rfl, _⟩ | ⟨g, cap, cur, ty, fr, bss, rfl, _⟩
    · exact ⟨none, 0, 0, rfl, rfl, by simpa [lenIn, HM.run] using hr⟩
    · exact ⟨_, _, cap, rfl, rfl, by simpa [lenIn, HM.run] using hr⟩
  | .list k, x, _ + 1, _, b, cs, hr, ho => by simp [lenIn, HM.run] at hr
  | .int _, _, _, _, _, _, hr, _ => by simp [lenIn, HM.run] at hr
  | .bool, _, _, _, _, _, hr, _ => by simp [lenIn, HM.run] at hr
  | .str, _, _, _, _, _, hr, _ => by simp [lenIn, HM.run] at hr
  | .arr _ _, _, _, _, _, _, hr, _ => by simp [lenIn, HM.run] at hr
  | .pair a b', x, off, _, b, cs, hr, ho => by
    simp only [Own] at ho
    obtain ⟨b1, b2, c1, c2, rfl, rfl, h1, h2⟩ := ho
    simp only [lenIn] at hr
    have hl := h1.len
    cases hb : Nat.blt off a.size with
    | true =>
      rw [hb] at hr
      obtain ⟨A, n, cap, e1, e2, e3⟩ := lenIn_out a x.1 off hr h1
      rw [Nat.blt_eq] at hb
      exact ⟨A, n, cap, by rw [List.getElem?_append_left (by omega)]; exact e1, by rw [isL_pair_left hb]; exact e2, e3⟩
    | false =>
      rw [hb] at hr
      obtain ⟨A, n, cap, e1, e2, e3⟩ := lenIn_out b' x.2 (off - a.size) hr h2
      have hge : a.size ≤ off := by
        rcases Nat.lt_or_ge off a.size with hlt | hge
        · rw [show Nat.blt off a.size = true from by rw [Nat.blt_eq]; exact hlt] at hb; cases hb
        · exact hge
      obtain ⟨o, rfl⟩ : ∃ o, off = a.size + o := ⟨off - a.size, by omega⟩
      rw [Nat.add_sub_cancel_left] at e1 e2
      exact ⟨A, n, cap, by rw [List.getElem?_append_right (by omega), hl, Nat.add_sub_cancel_left]; exact e1, by rw [isL_pair_right]; exact e2, e3⟩
theorem lenS_sim (I : Inv c h G w B Emp sl vs) {a : AV} {va : Value} (hr : (lenS a).run nid h K = some r) (ha : AVR G w (NN c h B Emp) a va) : ∃ A n cap, va = .slice A n cap ∧ K (.int .i64 n) h nid = some r := by
  unfold lenS at hr
  split at hr
  · simp only [AVR] at ha
    exact ⟨none, 0, 0, ha, hr⟩
  · rename_i k xs
    simp only [AVR] at ha
    obtain ⟨rs, h1, _⟩ := ha
    simp only [RO] at h1
    obtain ⟨A, cc, e1, _⟩ := h1
    injection e1 with e1
    exact ⟨A, _, cc, e1, hr⟩
  · rename_i j
    obtain ⟨root, hlook, hr⟩ := get_run hr
    simp only [AVR] at ha
    obtain ⟨_, rfl, _⟩ := ha
    cases root with
    | box => cases hr
    | arr => cases hr
    | list gen k xs =>
      obtain ⟨_, hroot⟩ := I.root j _ hlook
      simp only [RootR] at hroot
      obtain ⟨_, hown, _⟩ := hroot
      simp only [Own] at hown
      obtain ⟨v, e1, e2⟩ := hown
      injection e1 with e1
      rcases e2 with ⟨rfl, rfl, _⟩ | ⟨g, cap, cur, ty, fr, bss, rfl, _⟩
      · exact ⟨none, 0, 0, e1, hr⟩
      · exact ⟨_, _, cap, e1, hr⟩
  · simp only [AVR] at ha
    obtain ⟨_, A, len, cap, A', cc, _, _, rfl, _⟩ := ha
    exact ⟨A', _, cc, rfl, hr⟩
  · rename_i j g i off
    obtain ⟨root, hlook, hr⟩ := get_run hr
    simp only [AVR] at ha
    obtain ⟨_, rfl, _⟩ := ha
    cases root with
    | box => cases hr
    | arr => cases hr
    | list gen k xs =>
      obtain ⟨hg, hr⟩ := bif_run hr
      have hg := Nat.eq_of_beq_eq_true hg
      obtain ⟨x, hx, hr⟩ := lift_run hr
      obtain ⟨h0, hx⟩ := idx_some hx
      obtain ⟨_, hroot⟩ := I.root j _ hlook
      simp only [RootR] at hroot
      obtain ⟨hk, hown, hhd, hgen⟩ := hroot
      obtain ⟨blk, cs, b, e1, e2, e3, e4, e5⟩ := own_elem hown hx
      obtain ⟨A, n, cap, f1, f2, f3⟩ := lenIn_out k x off hr e3
      have := e5 _ _ f1
      rw [hhd blk e1 i.toNat (List.getElem?_eq_some_iff.1 hx).1 off f2] at this
      injection this with this
      rw [hg, hk]
      exact ⟨A, n, cap, this, f3⟩
  · cases hr
theorem len_sim (I : Inv c h G w B Emp sl vs) (hE : TabOk P E) {t ty : Nat} {a : AV} {va : Value} (hr : (lenOf E t a).run nid h K = some r) (ha : AVR G w (NN c h B Emp) a va) : Still P K r h nid G w (NN c h B Emp) (Builtin.len_ #[t] ty #[va]) := by
  unfold lenOf at hr
  split at hr
  · rename_i i hi
    have ht := (hE t i hi).2
    split at hr
    · rename_i s hd
      rw [hd] at ht
      simp only [AVR] at ha
      subst ha
      exact ⟨.int .i64 s.size, _, by simp [Builtin.len_, run_underlying ht.1, goInt], hr, by simp only [AVR]⟩
    · rename_i n e hd
      rw [hd] at ht
      exact ⟨.int .i64 n, _, by simp [Builtin.len_, run_underlying ht, goInt], hr, by simp only [AVR]⟩
    · rename_i e hd
      rw [hd] at ht
      obtain ⟨A, n, cap, rfl, hK⟩ := lenS_sim I hr ha
      exact ⟨.int .i64 n, _, by simp [Builtin.len_, run_underlying ht.1, goInt], hK, by simp only [AVR]⟩
    · cases hr
  · cases hr
def OptR (G : Ge) (w : World) (N : Nat → Prop) : Option AV → Option Value → Prop
  | none, none => True
  | some a, some v => AVR G w N a v
  | _, _ => False
theorem run_bounds {b : Bool} {len cap : Nat} {lo hi : Option AV} {vlo vhi : Option Value} {l u : Int} (hlo : OptR G w N lo vlo) (hhi : OptR G w N hi vhi) (hl : boundOf 0 lo = some l) (hu : boundOf (len : Int) hi = some u) (h0 : 0 ≤ l) (h1 : l ≤ u) (h2 : u ≤ cap) :
    (Instr.sliceBounds b len cap vlo vhi none).run P w = .ok (l.toNat, u.toNat, cap) w := by
  have hb : ∀ (k : IntKind) (i : Int) (y : Nat) (code : BoundsCode), 0 ≤ i → i ≤ y → (Instr.sliceBound (.int k i) y code).run P w = .ok i.toNat w := by
    intro k i y code h0 h1
    simp [Instr.sliceBound, asIntOf, h0, h1]
  have hv : ∀ (d : Int) (a : Option AV) (v : Option Value) (x : Int), OptR G w N a v → boundOf d a = some x → (v = none ∧ x = d) ∨ ∃ k, v = some (.int k x) := by
    intro d a v x h1 h2
    unfold boundOf at h2
    split at h2
    · cases v with
      | none => injection h2 with h2; exact .inl ⟨rfl, h2.symm⟩
      | some v => simp [OptR] at h1
    · cases v with
      | none => simp [OptR] at h1
      | some v =>
        simp only [OptR, AVR] at h1
        injection h2 with h2
        subst h1; subst h2
        exact .inr ⟨_, rfl⟩
    · cases h2
  rcases hv _ _ _ _ hlo hl with ⟨rfl, rfl⟩ | ⟨k1, rfl⟩
  · rcases hv _ _ _ _ hhi hu with ⟨rfl, rfl⟩ | ⟨k2, rfl⟩
    · simp [Instr.sliceBounds]
    · simp [Instr.sliceBounds, hb _ _ _ _ h1 h2]
  · rcases hv _ _ _ _ hhi hu with ⟨rfl, rfl⟩ | ⟨k2, rfl⟩
    · simp [Instr.sliceBounds, hb _ _ _ _ h0 h1]
    · have h3 : l ≤ (u.toNat : Int) := by omega
      simp [Instr.sliceBounds, hb _ _ _ _ (Int.le_trans h0 h1) h2, hb _ _ _ _ h0 h3]
theorem run_sliceAt_str {t : Nat} (ht : P.underlying t = some .string) {s : ByteArray} {vlo vhi : Option Value} {l u m : Nat} (hb : (Instr.sliceBounds false s.size s.size vlo vhi none).run P w = .ok (l, u, m) w) :
    (Instr.sliceAt t (.string s) vlo vhi none).run P w = .ok (.string (s.extract l u)) w := by
  simp [Instr.sliceAt, Instr.slice, run_underlying ht, hb]
theorem run_sliceAt_sl {t e n : Nat} (ht : P.underlying t = some (.slice e)) (hs : (Go.sizeOf e).run P w = .ok n w) {A : Option Addr} {len cap : Nat} {vlo vhi : Option Value} {l u : Nat} (hb : (Instr.sliceBounds true len cap vlo vhi none).run P w = .ok (l, u, cap) w) :
    (Instr.sliceAt t (.slice A len cap) vlo vhi none).run P w = .ok (.slice (if cap = l then A else A.map (·.add (l * n))) (u - l) (cap - l)) w := by
  simp [Instr.sliceAt, Instr.slice, run_underlying ht, hb, hs]
theorem add_map_map (A : Option Addr) (i j : Nat) : (A.map (·.add i)).map (·.add j) = A.map (·.add (i + j)) := by
  cases A with
  | none => rfl
  | some a => simp [add_add]
theorem map_add_zero (A : Option Addr) : A.map (·.add 0) = A := by
  cases A with
  | none => rfl
  | some a => simp [Addr.add]
theorem sub_of {size lo0 n : Nat} {A' : Option Addr} {cc l u : Nat} {L0 : Value} (hs : SubV L0 size lo0 n (.slice A' n cc)) (h1 : l ≤ u) (h2 : u ≤ n) :
    SubV L0 size (lo0 + l) (u - l) (.slice (if cc = l then A' else A'.map (·.add (l * size))) (u - l) (cc - l)) := by
  obtain ⟨A, len, cap, A1, c1, hL, hlo, hv, hm, hA, hz⟩ := hs
  injection hv with e1 e2 e3
  subst e1; subst e3
  refine ⟨A, len, cap, _, _, hL, by omega, rfl, by omega, fun hp => ?_, fun h0 => ?_⟩
  · rw [if_neg (by omega), hA (by omega), add_map_map, Nat.add_mul]
  · obtain ⟨h3, h4⟩ := hz (by omega)
    have hl : l = 0 := by omega
    subst hl
    subst h3; subst h4
    refine ⟨?_, by omega⟩
    split
    · rfl
    · rw [Nat.zero_mul, map_add_zero]
theorem slice_sim (I : Inv c h G w B Emp sl vs) (hE : TabOk P E) {t : Nat} {a : AV} {va : Value} {lo hi : Option AV} {vlo vhi : Option Value} (hr : (semSlice E t a lo hi).run nid h K = some r) (ha : AVR G w (NN c h B Emp) a va) (hlo : OptR G w (NN c h B Emp) lo vlo) (hhi : OptR G w (NN c h B Emp) hi vhi) : Still P K r h nid G w (NN c h B Emp) (Instr.sliceAt t va vlo vhi none) := by
  unfold semSlice at hr
  split at hr
  · rename_i s
    obtain ⟨hc, hr⟩ := bif_run hr
    have ht := strTy_ok hE hc
    simp only [AVR] at ha
    subst ha
    split at hr
    · rename_i l u hl hu
      obtain ⟨hb, hr⟩ := ite_run' hr
      simp only [Bool.and_eq_true, decide_eq_true_eq] at hb
      exact ⟨_, _, run_sliceAt_str ht (run_bounds hlo hhi hl hu hb.1.1 hb.1.2 hb.2), hr, by simp only [AVR]⟩
    · cases hr
  · rename_i k xs
    obtain ⟨hc, hr⟩ := bif_run hr
    obtain ⟨e, ht, hs⟩ := slTy_ok hE hc
    simp only [AVR] at ha
    obtain ⟨rs, h1, h2⟩ := ha
    simp only [RO] at h1
    obtain ⟨A, cc, e1, e2, e3⟩ := h1
    injection e1 with e1
    subst e1
    split at hr
    · rename_i l u hl hu
      obtain ⟨hb, hr⟩ := ite_run' hr
      simp only [Bool.and_eq_true, decide_eq_true_eq] at hb
      refine ⟨_, _, run_sliceAt_sl ht (hs w) (run_bounds hlo hhi hl hu hb.1.1 hb.1.2 (by omega)), hr, ?_⟩
      simp only [AVR]
      refine ⟨rs, ?_, h2⟩
      simp only [RO]
      have hlen : ((xs.take u.toNat).drop l.toNat).length = u.toNat - l.toNat := by simp only [List.length_drop, List.length_take]; omega
      refine ⟨_, cc - l.toNat, by rw [hlen], by rw [hlen]; omega, fun j hj => ?_⟩
      rw [hlen] at hj
      obtain ⟨ad, el, f1, f2, f3, f4⟩ := e3 (l.toNat + j) (by omega)
      subst f1
      rw [if_neg (by omega)]
      refine ⟨ad.add (l.toNat * k.size), el, rfl, by rw [add_block]; exact f2, ?_, fun q v hv => ?_⟩
      · rw [List.getElem_drop, List.getElem_take]
        exact f3
      · rw [add_add, ← Nat.add_assoc, ← Nat.add_mul]
        exact f4 q v hv
    · cases hr
  · rename_i j
    obtain ⟨root, hlook, hr⟩ := get_run hr
    cases root with
    | box => cases hr
    | arr => cases hr
    | list gen k xs =>
      obtain ⟨hc, hr⟩ := bif_run hr
      obtain ⟨e, ht, hs⟩ := slTy_ok hE hc
      split at hr
      · rename_i l u hl hu
        obtain ⟨hb, hr⟩ := ite_run' hr
        simp only [Bool.and_eq_true, decide_eq_true_eq] at hb
        obtain ⟨hd, hroot⟩ := I.root j _ hlook
        simp only [RootR] at hroot
        obtain ⟨hk, hown, _⟩ := hroot
        simp only [AVR] at ha
        obtain ⟨_, rfl, _⟩ := ha
        have hsh : ∃ A cap, G.L j = .slice A xs.length cap ∧ xs.length ≤ cap := by
          simp only [Own] at hown
          obtain ⟨v, e1, e2⟩ := hown
          injection e1 with e1
          rcases e2 with ⟨rfl, rfl, _⟩ | ⟨g, cap, cur, ty, fr, bss, rfl, _, _, e5, _⟩
          · exact ⟨none, 0, e1, by simp⟩
          · exact ⟨_, cap, e1, e5⟩
        obtain ⟨A, cap, hL, hcap⟩ := hsh
        have hsub : SubV (G.L j) k.size 0 xs.length (.slice A xs.length cap) := ⟨A, xs.length, cap, A, cap, hL, by omega, rfl, hcap, fun _ => by rw [Nat.zero_mul, map_add_zero], fun _ => ⟨rfl, rfl⟩⟩
        have := sub_of hsub (l := l.toNat) (u := u.toNat) (by omega) (by omega)
        rw [hL]
        refine ⟨_, _, run_sliceAt_sl ht (hs w) (run_bounds hlo hhi hl hu hb.1.1 hb.1.2 (by omega)), hr, ?_⟩
        simp only [AVR]
        rw [Nat.zero_add] at this
        rw [hk, show (u - l).toNat = u.toNat - l.toNat by omega]
        exact ⟨hd, this⟩
      · cases hr
  · rename_i j lo0 n
    obtain ⟨root, hlook, hr⟩ := get_run hr
    cases root with
    | box => cases hr
    | arr => cases hr
    | list gen k xs =>
      obtain ⟨hc, hr⟩ := bif_run hr
      obtain ⟨e, ht, hs⟩ := slTy_ok hE hc
      split at hr
      · rename_i l u hl hu
        obtain ⟨hb, hr⟩ := ite_run' hr
        simp only [Bool.and_eq_true, decide_eq_true_eq] at hb
        obtain ⟨hd, hroot⟩ := I.root j _ hlook
        simp only [RootR] at hroot
        obtain ⟨hk, hown, _⟩ := hroot
        simp only [AVR] at ha
        obtain ⟨_, hsub⟩ := ha
        have hsub' := hsub
        obtain ⟨A, len, cap, A', cc, hL, hlo', rfl, hm, hA, hz⟩ := hsub
        have := sub_of hsub' (l := l.toNat) (u := u.toNat) (by omega) (by omega)
        refine ⟨_, _, run_sliceAt_sl ht (hs w) (run_bounds hlo hhi hl hu hb.1.1.1 hb.1.1.2 (by omega)), hr, ?_⟩
        simp only [AVR]
        rw [← hk, show (u - l).toNat = u.toNat - l.toNat by omega]
        exact ⟨hd, this⟩
      · cases hr
  · split at hr
    · rename_i j hj
      obtain ⟨hc, hr⟩ := bif_run hr
      obtain ⟨e, ht, hs⟩ := slTy_ok hE hc
      simp only [AVR] at ha
      subst ha
      split at hr
      · rename_i l u hl hu
        obtain ⟨hb, hr⟩ := ite_run' hr
        simp only [Bool.and_eq_true, decide_eq_true_eq] at hb
        obtain ⟨rfl, rfl⟩ := hb
        have := run_sliceAt_sl ht (hs w) (A := none) (run_bounds (P := P) (b := true) (len := 0) (cap := 0) hlo hhi hl hu (Int.le_refl _) (Int.le_refl _) (Int.le_refl _))
        exact ⟨_, _, this, hr, by simp [AVR]⟩
      · cases hr
    · cases hr
  · cases hr
end
end Go.TM

/- Lists read, lists handed over, lists made. -/
set_option linter.unusedVariables false
set_option linter.unusedSimpArgs false
namespace Go.TM
open Go
section
variable {P : Program} {E : Env} {c : Ctx} {h : List (Nat × Root)} {G : Ge} {w : World} {B : Nat → List Nat} {sl : Nat → AV} {vs : Nat → Value} {N : Nat → Prop}
theorem RO.part {k : K} {rs : List Nat} {xs : List k.T} {A : Option Addr} {len cap lo n : Nat} {A' : Option Addr} {cc : Nat} (h : RO (.list k) w rs xs [.slice A len cap]) (hs : SubV (.slice A len cap) k.size lo n (.slice A' n cc)) : RO (.list k) w rs ((xs.drop lo).take n) [.slice A' n cc] := by
  obtain ⟨A1, len1, cap1, A2, c2, e1, hlo, e2, hm, hA, _⟩ := hs
  injection e1 with f1 f2 f3
  subst f1; subst f2; subst f3
  injection e2 with f1 f2 f3
  subst f1; subst f3
  simp only [RO] at h ⊢
  obtain ⟨A3, c3, e3, h2, h3⟩ := h
  injection e3 with e3
  injection e3 with f1 f2 f3
  subst f1
  have hl : ((xs.drop lo).take n).length = n := by simp only [List.length_take, List.length_drop]; omega
  refine ⟨A', cc, by rw [hl], by omega, fun j hj => ?_⟩
  rw [hl] at hj
  obtain ⟨ad, el, g1, g2, g3, g4⟩ := h3 (lo + j) (by omega)
  subst g1
  have hA := hA (by omega)
  simp only [Option.map_some] at hA
  refine ⟨_, el, hA, by rw [add_block]; exact g2, ?_, fun q u hu => ?_⟩
  · rw [List.getElem_take, List.getElem_drop]; exact g3
  · rw [add_add, ← Nat.add_assoc, ← Nat.add_mul]; exact g4 q u hu
theorem getList_out : ∀ (k' : K) (x : k'.T) (off : Nat) (k : K) {ys : List k.T} {b : List Nat} {cs : List Value}, getList k' x off k = some ys → Own k' w b x cs → ∃ v b', cs[off]? = some v ∧ isL k' off = true ∧ Own (.list k) w b' ys [v] ∧ ∀ q, q ∈ b' → q ∈ b
  | .list k', x, 0, k, ys, b, cs, hg, ho => by
    simp only [getList] at hg
    split at hg
    · rename_i hk
      subst hk
      injection hg with hg
      subst hg
      have hl := ho.len
      match cs, hl with
      | [v], _ => exact ⟨v, b, rfl, rfl, ho, fun _ hq => hq⟩
    · cases hg
  | .list _, _, _ + 1, _, _, _, _, hg, _ => by simp [getList] at hg
  | .int _, _, _, _, _, _, _, hg, _ => by simp [getList] at hg
  | .bool, _, _, _, _, _, _, hg, _ => by simp [getList] at hg
  | .str, _, _, _, _, _, _, hg, _ => by simp [getList] at hg
  | .arr _ _, _, _, _, _, _, _, hg, _ => by simp [getList] at hg
  | .pair a b', x, off, k, ys, b, cs, hg, ho => by
    simp only [Own] at ho
    obtain ⟨b1, b2, c1, c2, rfl, rfl, h1, h2⟩ := ho
    simp only [getList] at hg
    have hl := h1.len
    cases hb : Nat.blt off a.size with
    | true =>
      rw [hb] at hg
      obtain ⟨v, b', e1, e2, e3, e4⟩ := getList_out a x.1 off k hg h1
      rw [Nat.blt_eq] at hb
      exact ⟨v, b', by rw [List.getElem?_append_left (by omega)]; exact e1, by rw [isL_pair_left hb]; exact e2, e3, fun q hq => List.mem_append_left _ (e4 q hq)⟩
    | false =>
      rw [hb] at hg
      obtain ⟨v, b', e1, e2, e3, e4⟩ := getList_out b' x.2 (off - a.size) k hg h2
      have hge : a.size ≤ off := by
        rcases Nat.lt_or_ge off a.size with hlt | hge
        · rw [show Nat.blt off a.size = true from by rw [Nat.blt_eq]; exact hlt] at hb; cases hb
        · exact hge
      obtain ⟨o, rfl⟩ : ∃ o, off = a.size + o := ⟨off - a.size, by omega⟩
      rw [Nat.add_sub_cancel_left] at e1 e2
      exact ⟨v, b', by rw [List.getElem?_append_right (by omega), hl, Nat.add_sub_cancel_left]; exact e1, by rw [isL_pair_right]; exact e2, e3, fun q hq => List.mem_append_right _ (e4 q hq)⟩
theorem own_slice {k : K} {bs : List Nat} {xs : List k.T} {v : Value} (h : Own (.list k) w bs xs [v]) : ∃ A cap, v = .slice A xs.length cap ∧ xs.length ≤ cap := by
  simp only [Own] at h
  obtain ⟨v', e1, e2⟩ := h
  injection e1 with e1
  subst e1
  rcases e2 with ⟨rfl, rfl, _⟩ | ⟨g, cap, cur, ty, fr, bss, rfl, _, _, e5, _⟩
  · exact ⟨none, 0, rfl, by simp⟩
  · exact ⟨_, cap, rfl, e5⟩
theorem Own.first {k : K} {bs : List Nat} {xs : List k.T} {v v' : Value} (h : Own (.list k) w bs xs [v]) (hn : bs.Nodup) {n : Nat} (hs : SubV v k.size 0 n v') : ∃ bs', Own (.list k) w bs' (xs.take n) [v'] ∧ bs'.Nodup ∧ ∀ q, q ∈ bs' → q ∈ bs := by
  obtain ⟨A, len, cap, A', cc, rfl, hlo, rfl, hm, _, hz⟩ := hs
  obtain ⟨hz1, hz2⟩ := hz rfl
  subst hz1; subst hz2
  simp only [Own] at h ⊢
  obtain ⟨v', e1, e2⟩ := h
  injection e1 with e1
  subst e1
  rcases e2 with ⟨e2, rfl, rfl⟩ | ⟨g, cap', cur, ty, fr, bss, e1, e2, e3, e4, e5, e6, e7, e8, e9⟩
  · injection e2 with f1 f2 f3
    subst f1; subst f3
    have : n = 0 := by omega
    subst this
    exact ⟨[], ⟨_, rfl, .inl ⟨rfl, by simp, rfl⟩⟩, List.nodup_nil, fun _ h => h⟩
  · injection e1 with f1 f2 f3
    subst f1; subst f2; subst f3
    have hl : (xs.take n).length = n := by simp only [List.length_take]; omega
    refine ⟨g :: (bss.take n).flatten, ⟨_, rfl, .inr ⟨g, cc, cur, ty, fr, bss.take n, by rw [hl], e2, e3, by rw [hl]; omega, e5, e6, rfl, by simp only [List.length_take]; omega, fun j hj => ?_⟩⟩, ?_, fun q hq => ?_⟩
    · rw [hl] at hj
      obtain ⟨b, hb, ho⟩ := e9 j (by omega)
      exact ⟨b, by rw [List.getElem?_take, if_pos hj]; exact hb, by rw [List.getElem_take]; exact ho⟩
    · rw [e7] at hn
      have hsub : (g :: (bss.take n).flatten).Sublist (g :: bss.flatten) := by
        refine List.Sublist.cons_cons g ?_
        conv => rhs; rw [← List.take_append_drop n bss, List.flatten_append]
        exact List.sublist_append_left _ _
      exact hn.sublist hsub
    · rw [e7]
      rcases List.mem_cons.1 hq with rfl | hq
      · exact List.mem_cons_self
      · obtain ⟨l, hl', hql⟩ := List.mem_flatten.1 hq
        exact List.mem_cons_of_mem _ (List.mem_flatten.2 ⟨l, List.mem_of_mem_take hl', hql⟩)
end
section
variable {P : Program} {E : Env} {c : Ctx} {h : List (Nat × Root)} {G : Ge} {w : World} {B : Nat → List Nat} {X : Nat → Prop} {sl : Nat → AV} {vs : Nat → Value} {ρ α : Type} {K : α → List (Nat × Root) → Nat → Option ρ} {r : ρ} {nid : Nat}
def rootOf : AV → Option Nat
  | .own j => some j
  | .sub j _ _ => some j
  | .nest j _ _ _ => some j
  | _ => none
theorem listR_out (I : Inv c h G w B X sl vs) {v : AV} {val : Value} {k : TM.K} {f : List k.T → HM α} (hr : (listR v k f).run nid h K = some r) (ha : AVR G w (NN c h B X) v val) :
    ∃ xs rs, (f xs).run nid h K = some r ∧ RO (.list k) w rs xs [val] ∧ ∀ b, b ∈ rs → b < w.heap.size ∧ (¬ NN c h B X b ∨ ∃ j root, rootOf v = some j ∧ look h j = some root ∧ b ∈ B j) := by
  unfold listR at hr
  split at hr
  · simp only [AVR] at ha
    subst ha
    exact ⟨[], [], hr, by simp [RO], fun b hb => by cases hb⟩
  · rename_i k' xs
    split at hr
    · rename_i hk
      subst hk
      simp only [AVR] at ha
      obtain ⟨rs, h1, h2⟩ := ha
      exact ⟨xs, rs, hr, h1, fun b hb => ⟨(h2 b hb).2, .inl (h2 b hb).1⟩⟩
    · cases hr
  · rename_i j
    obtain ⟨root, hlook, hr⟩ := get_run hr
    cases root with
    | box => cases hr
    | arr => cases hr
    | list gen k' xs =>
      simp only at hr
      split at hr
      · rename_i hk
        subst hk
        obtain ⟨hd, hroot⟩ := I.root j _ hlook
        simp only [RootR] at hroot
        simp only [AVR] at ha
        obtain ⟨_, rfl, _⟩ := ha
        exact ⟨xs, B j, hr, hroot.2.1.ro, fun b hb => ⟨hroot.2.1.lt b hb, .inr ⟨j, _, rfl, hlook, hb⟩⟩⟩
      · cases hr
  · rename_i j lo n
    obtain ⟨root, hlook, hr⟩ := get_run hr
    cases root with
    | box => cases hr
    | arr => cases hr
    | list gen k' xs =>
      simp only at hr
      split at hr
      · rename_i hk
        subst hk
        obtain ⟨hd, hroot⟩ := I.root j _ hlook
        simp only [RootR] at hroot
        simp only [AVR] at ha
        obtain ⟨_, hsub⟩ := ha
        obtain ⟨A, cap, hL, _⟩ := own_slice hroot.2.1
        have hsub' := hsub
        obtain ⟨_, _, _, A', cc, _, _, rfl, _⟩ := hsub'
        have hro := hroot.2.1.ro
        rw [hL] at hro hsub
        rw [hroot.1] at hsub
        exact ⟨_, B j, hr, hro.part hsub, fun b hb => ⟨hroot.2.1.lt b hb, .inr ⟨j, _, rfl, hlook, hb⟩⟩⟩
      · cases hr
  · rename_i j g i off
    obtain ⟨root, hlook, hr⟩ := get_run hr
    cases root with
    | box => cases hr
    | arr => cases hr
    | list gen k' xs =>
      obtain ⟨hg, hr⟩ := bif_run hr
      have hg := Nat.eq_of_beq_eq_true hg
      obtain ⟨x, hx, hr⟩ := lift_run hr
      split at hr
      · rename_i ys hys
        obtain ⟨h0, hx⟩ := idx_some hx
        obtain ⟨hd, hroot⟩ := I.root j _ hlook
        simp only [RootR] at hroot
        obtain ⟨hk, hown, hhd, hgen⟩ := hroot
        obtain ⟨blk, cs, b, e1, e2, e3, e4, e5⟩ := own_elem hown hx
        obtain ⟨v, b', f1, f2, f3, f4⟩ := getList_out k' x off k hys e3
        have := e5 _ _ f1
        rw [hhd blk e1 i.toNat (List.getElem?_eq_some_iff.1 hx).1 off f2] at this
        injection this with this
        simp only [AVR] at ha
        obtain ⟨_, rfl, _⟩ := ha
        rw [hg, hk, this]
        exact ⟨ys, b', hr, f3.ro, fun q hq => ⟨f3.lt q hq, .inr ⟨j, _, rfl, hlook, e4 _ (f4 _ hq)⟩⟩⟩
      · cases hr
  · cases hr
structure Limbo (c : Ctx) (h : List (Nat × Root)) (G : Ge) (w : World) (B : Nat → List Nat) (X : Nat → Prop) (sl : Nat → AV) (vs : Nat → Value) (h' : List (Nat × Root)) (bs : List Nat) : Prop where
  inv : Inv c h' G w B (fun b => X b ∨ b ∈ bs) sl vs
  pres : Pres G w (NN c h B X) G w (NN c h' B (fun b => X b ∨ b ∈ bs))
  nodup : bs.Nodup
  fresh : ∀ b, b ∈ bs → ¬ X b
  sub : ∀ j root, look h' j = some root → look h j = some root
theorem Limbo.refl (I : Inv c h G w B X sl vs) : Limbo c h G w B X sl vs h [] := by
  have : (fun b => X b ∨ b ∈ ([] : List Nat)) = X := by funext b; simp
  exact ⟨by rw [this]; exact I, by rw [this]; exact Pres.refl _ _ _, List.nodup_nil, fun b hb => (List.not_mem_nil hb).elim, fun _ _ h => h⟩
theorem Limbo.trans {h' h'' : List (Nat × Root)} {b1 b2 : List Nat} (l1 : Limbo c h G w B X sl vs h' b1) (l2 : Limbo c h' G w B (fun b => X b ∨ b ∈ b1) sl vs h'' b2) : Limbo c h G w B X sl vs h'' (b1 ++ b2) := by
  have he : (fun b => (X b ∨ b ∈ b1) ∨ b ∈ b2) = fun b => X b ∨ b ∈ b1 ++ b2 := by funext b; simp [or_assoc]
  obtain ⟨i2, p2, n2, f2, s2⟩ := l2
  rw [he] at i2 p2
  refine ⟨i2, l1.pres.trans p2, ?_, fun b hb => ?_, fun j root hj => l1.sub j root (s2 j root hj)⟩
  · rw [List.nodup_append]
    exact ⟨l1.nodup, n2, fun a ha b hb e => f2 b hb (.inr (e ▸ ha))⟩
  · rcases List.mem_append.1 hb with hb | hb
    · exact l1.fresh b hb
    · exact fun hx => f2 b hb (.inl hx)
theorem Limbo.avr {h' : List (Nat × Root)} {bs : List Nat} (l : Limbo c h G w B X sl vs h' bs) {a : AV} {v : Value} (ha : AVR G w (NN c h B X) a v) : AVR G w (NN c h' B (fun b => X b ∨ b ∈ bs)) a v := AVR.pres l.pres a v ha
theorem Limbo.avrs {h' : List (Nat × Root)} {bs : List Nat} (l : Limbo c h G w B X sl vs h' bs) {a : List AV} {v : List Value} (ha : AVRs G w (NN c h B X) a v) : AVRs G w (NN c h' B (fun b => X b ∨ b ∈ bs)) a v := AVRs.pres l.pres a v ha
theorem Limbo.of_del (I : Inv c h G w B X sl vs) {j : Nat} {root : Root} (hj : look h j = some root) {bs : List Nat} (hn : bs.Nodup) (hs : ∀ q, q ∈ bs → q ∈ B j) : Limbo c h G w B X sl vs (TM.del h j) bs := by
  obtain ⟨i1, p1⟩ := I.del j hj
  obtain ⟨i2, p2⟩ := i1.less (fun b => X b ∨ b ∈ bs) (fun b hb => hb.elim .inl (fun h => .inr (hs b h)))
  refine ⟨i2, p1.trans p2, hn, fun b hb => (I.own j root hj b (hs b hb)).2.2, fun i root' hi => ?_⟩
  rw [look_del] at hi
  split at hi
  · cases hi
  · exact hi
theorem listO_out (I : Inv c h G w B X sl vs) {v : AV} {val : Value} {k : TM.K} {f : List k.T → HM α} (hr : (listO v k f).run nid h K = some r) (ha : AVR G w (NN c h B X) v val) :
    ∃ xs bs h', (f xs).run nid h' K = some r ∧ Own (.list k) w bs xs [val] ∧ Limbo c h G w B X sl vs h' bs := by
  unfold listO at hr
  split at hr
  · simp only [AVR] at ha
    subst ha
    exact ⟨[], [], h, hr, by simp [Own], Limbo.refl I⟩
  · rename_i j
    obtain ⟨root, hlook, hr⟩ := get_run hr
    cases root with
    | box => cases hr
    | arr => cases hr
    | list gen k' xs =>
      simp only at hr
      split at hr
      · rename_i hk
        subst hk
        obtain ⟨hd, hroot⟩ := I.root j _ hlook
        simp only [RootR] at hroot
        simp only [AVR] at ha
        obtain ⟨_, rfl, _⟩ := ha
        exact ⟨xs, B j, TM.del h j, hr, hroot.2.1, Limbo.of_del I hlook (I.nodup j _ hlook) (fun _ h => h)⟩
      · cases hr
  · rename_i j n
    obtain ⟨root, hlook, hr⟩ := get_run hr
    cases root with
    | box => cases hr
    | arr => cases hr
    | list gen k' xs =>
      simp only at hr
      split at hr
      · rename_i hk
        subst hk
        obtain ⟨hd, hroot⟩ := I.root j _ hlook
        simp only [RootR] at hroot
        simp only [AVR] at ha
        obtain ⟨_, hsub⟩ := ha
        rw [hroot.1] at hsub
        obtain ⟨bs, h1, h2, h3⟩ := hroot.2.1.first (I.nodup j _ hlook) hsub
        exact ⟨_, bs, TM.del h j, hr, h1, Limbo.of_del I hlook h2 h3⟩
      · cases hr
  · cases hr
theorem impK_out : ∀ (k : TM.K) {h : List (Nat × Root)} {X : Nat → Prop} {avs : List AV} {vals : List Value} {f : k.T → List AV → HM α} (I : Inv c h G w B X sl vs), (impK k avs f).run nid h K = some r → AVRs G w (NN c h B X) avs vals →
    ∃ x rest h' bs c1 c2, vals = c1 ++ c2 ∧ (f x rest).run nid h' K = some r ∧ Own k w bs x c1 ∧ Limbo c h G w B X sl vs h' bs ∧ AVRs G w (NN c h' B (fun b => X b ∨ b ∈ bs)) rest c2
  | .int k, h, X, avs, vals, f, I, hr, ha => by
    cases avs with
    | nil => simp [impK, HM.run] at hr
    | cons a rest =>
      cases a with
      | int k' x =>
        simp only [impK] at hr
        obtain ⟨hk, hr⟩ := bif_run hr
        simp only [decide_eq_true_eq] at hk
        cases vals with
        | nil => simp only [AVRs] at ha
        | cons v vals =>
          simp only [AVRs, AVR] at ha
          exact ⟨x, rest, h, [], [v], vals, rfl, hr, by simp only [Own]; exact ⟨trivial, by rw [ha.1, hk]⟩, Limbo.refl I, (Limbo.refl I).avrs ha.2⟩
      | _ => simp [impK, HM.run] at hr
  | .bool, h, X, avs, vals, f, I, hr, ha => by
    cases avs with
    | nil => simp [impK, HM.run] at hr
    | cons a rest =>
      cases a with
      | bool x =>
        simp only [impK] at hr
        cases vals with
        | nil => simp only [AVRs] at ha
        | cons v vals =>
          simp only [AVRs, AVR] at ha
          exact ⟨x, rest, h, [], [v], vals, rfl, hr, by simp only [Own]; exact ⟨trivial, by rw [ha.1]⟩, Limbo.refl I, (Limbo.refl I).avrs ha.2⟩
      | _ => simp [impK, HM.run] at hr
  | .str, h, X, avs, vals, f, I, hr, ha => by
    cases avs with
    | nil => simp [impK, HM.run] at hr
    | cons a rest =>
      cases a with
      | str x =>
        simp only [impK] at hr
        cases vals with
        | nil => simp only [AVRs] at ha
        | cons v vals =>
          simp only [AVRs, AVR] at ha
          exact ⟨x, rest, h, [], [v], vals, rfl, hr, by simp only [Own]; exact ⟨trivial, by rw [ha.1]⟩, Limbo.refl I, (Limbo.refl I).avrs ha.2⟩
      | _ => simp [impK, HM.run] at hr
  | .list k, h, X, avs, vals, f, I, hr, ha => by
    cases avs with
    | nil => simp [impK, HM.run] at hr
    | cons a rest =>
      simp only [impK] at hr
      cases vals with
      | nil => simp only [AVRs] at ha
      | cons v vals =>
        simp only [AVRs] at ha
        obtain ⟨xs, bs, h', e1, e2, e3⟩ := listO_out I hr ha.1
        exact ⟨xs, rest, h', bs, [v], vals, rfl, e1, e2, e3, e3.avrs ha.2⟩
  | .pair a b, h, X, avs, vals, f, I, hr, ha => by
    simp only [impK] at hr
    obtain ⟨x, rest, h1, b1, c1, c2, rfl, e1, e2, e3, e4⟩ := impK_out a I hr ha
    obtain ⟨y, rest', h2, b2, c3, c4, rfl, f1, f2, f3, f4⟩ := impK_out b e3.inv e1 e4
    have he : (fun q => (X q ∨ q ∈ b1) ∨ q ∈ b2) = fun q => X q ∨ q ∈ b1 ++ b2 := by funext q; simp [or_assoc]
    rw [he] at f4
    exact ⟨(x, y), rest', h2, b1 ++ b2, c1 ++ c3, c4, by simp, f1, by simp only [Own]; exact ⟨b1, b2, c1, c3, rfl, rfl, e2, f2⟩, e3.trans f3, f4⟩
  | .arr n k, h, X, avs, vals, f, I, hr, ha => by simp [impK, HM.run] at hr
theorem impList_out (k : TM.K) : ∀ (n : Nat) {h : List (Nat × Root)} {X : Nat → Prop} {avs : List AV} {vals : List Value} {f : List k.T → HM AV} {K : AV → List (Nat × Root) → Nat → Option ρ} (I : Inv c h G w B X sl vs), (impList k n avs f).run nid h K = some r → AVRs G w (NN c h B X) avs vals →
    ∃ (xs : List k.T) (h' : List (Nat × Root)) (bss : List (List Nat)), (f xs).run nid h' K = some r ∧ Limbo c h G w B X sl vs h' bss.flatten ∧ xs.length = n ∧ bss.length = n ∧ vals.length = n * k.size ∧ ∀ (j : Nat) (e : k.T), xs[j]? = some e → ∃ b, bss[j]? = some b ∧ Own k w b e ((vals.drop (j * k.size)).take k.size)
  | 0, h, X, avs, vals, f, K, I, hr, ha => by
    cases avs with
    | nil =>
      have hl := ha.length
      simp only [List.length_nil] at hl
      exact ⟨[], h, [], hr, Limbo.refl I, rfl, rfl, by omega, fun j e he => by simp at he⟩
    | cons a rest => simp [impList, HM.run] at hr
  | n + 1, h, X, avs, vals, f, K, I, hr, ha => by
    simp only [impList] at hr
    obtain ⟨x, rest, h1, b1, c1, c2, rfl, e1, e2, e3, e4⟩ := impK_out k I hr ha
    obtain ⟨xs, h2, bss, f1, f2, f3, f4, f5, f6⟩ := impList_out k n e3.inv e1 e4
    have hl := e2.len
    refine ⟨x :: xs, h2, b1 :: bss, f1, ?_, by simp [f3], by simp [f4], by rw [List.length_append, hl, f5, Nat.succ_mul, Nat.add_comm], fun j e he => ?_⟩
    · have := e3.trans f2
      simpa using this
    · cases j with
      | zero =>
        simp only [List.getElem?_cons_zero, Option.some.injEq] at he
        subst he
        refine ⟨b1, rfl, ?_⟩
        rw [Nat.zero_mul, List.drop_zero, ← hl, List.take_left]
        exact e2
      | succ j =>
        simp only [List.getElem?_cons_succ] at he ⊢
        obtain ⟨b, hb, ho⟩ := f6 j e he
        refine ⟨b, hb, ?_⟩
        have : (c1 ++ c2).drop ((j + 1) * k.size) = c2.drop (j * k.size) := by
          rw [Nat.succ_mul, Nat.add_comm, ← List.drop_drop, ← hl, List.drop_left]
        rw [this]
        exact ho
theorem Inv.fresh (I : Inv c h G w B X sl vs) {j : Nat} (hj : ¬ G.D j) : look h j = none := by
  cases hl : look h j with
  | none => rfl
  | some root => exact absurd (I.root j root hl).1 hj
theorem Inv.addList (I : Inv c h G w B X sl vs) {j : Nat} (hj : ¬ G.D j) {k : TM.K} {xs : List k.T} {v : Value} {bs : List Nat} (ho : Own (.list k) w bs xs [v]) (hn : bs.Nodup) (hb : ∀ b, b ∈ bs → X b) :
    ∃ G' B', (∀ i, G'.D i ↔ (i = j ∨ G.D i)) ∧ Inv c ((j, .list 0 k xs) :: h) G' w B' (fun b => X b ∧ ¬ b ∈ bs) sl vs ∧ G'.L j = v ∧ Pres G w (NN c h B X) G' w (NN c ((j, .list 0 k xs) :: h) B' (fun b => X b ∧ ¬ b ∈ bs)) := by
  let hd : Nat → Nat → Value := fun _ o => match blockOf v with
    | some blk => (w.cell? ⟨blk, o, none⟩).getD Go.undef
    | none => Go.undef
  obtain ⟨i1, p1⟩ := I.add (G' := G.ext j v k hd) (Ge.ext_pres hj v k hd w _) j (.list 0 k xs) bs ((j, .list 0 k xs) :: h) (I.fresh hj) (.inl rfl) (fun i => look_cons h j _ i) hn hb (fun N hN => by
    simp only [RootR, Ge.ext, if_true]
    refine ⟨trivial, ho, fun blk hblk q hq off hoff => ?_, .inl trivial⟩
    obtain ⟨g, cs, b, e1, e2, e3, e4, e5⟩ := own_elem ho (List.getElem?_eq_getElem hq)
    rw [hblk] at e1
    injection e1 with e1
    subst e1
    have hlt : off < cs.length := by rw [e3.len]; exact isL_lt hoff
    have := e5 off _ (List.getElem?_eq_getElem hlt)
    simp only [hd, hblk, this, Option.getD_some])
  exact ⟨_, _, fun i => Iff.rfl, i1, by simp [Ge.ext], p1⟩
theorem Inv.addBox (I : Inv c h G w B X sl vs) {j : Nat} (hj : ¬ G.D j) {cs : List AV} {g : Nat} {cur : Array Value} {ty : TypeId} (hg : w.heap[g]? = some (.cells cur ty (0, 0))) (h1 : ∀ u, u ∈ cur.toList → u.oneCell' = true) (hcs : AVRs G w (NN c h B X) cs cur.toList) (hb : X g) :
    ∃ G' B', (∀ i, G'.D i ↔ (i = j ∨ G.D i)) ∧ Inv c ((j, .box cs) :: h) G' w B' (fun b => X b ∧ ¬ b ∈ [g]) sl vs ∧ G'.L j = .pointer (some ⟨g, 0, none⟩) ∧ Pres G w (NN c h B X) G' w (NN c ((j, .box cs) :: h) B' (fun b => X b ∧ ¬ b ∈ [g])) := by
  let v : Value := .pointer (some ⟨g, 0, none⟩)
  have hp := Ge.ext_pres hj v (.bool) (fun _ _ => Go.undef) w (NN c h B X)
  obtain ⟨i1, p1⟩ := I.add (G' := G.ext j v .bool (fun _ _ => Go.undef)) hp j (.box cs) [g] ((j, .box cs) :: h) (I.fresh hj) (.inl rfl) (fun i => look_cons h j _ i) (by simp) (fun b hbb => by simp only [List.mem_singleton] at hbb; rw [hbb]; exact hb) (fun N hN => by
    simp only [RootR, Ge.ext, if_true]
    have hNN : N = NN c h B X := by funext b; exact propext (hN b)
    subst hNN
    exact ⟨g, cur, ty, rfl, rfl, hg, h1, AVRs.pres hp _ _ hcs⟩)
  exact ⟨_, _, fun i => Iff.rfl, i1, by simp [Ge.ext, v], p1⟩
theorem Inv.addArr (I : Inv c h G w B X sl vs) {j : Nat} (hj : ¬ G.D j) {n : Nat} {k : TM.K} {xs : List k.T} {g : Nat} {cur : Array Value} {ty : TypeId} (hf : k.flat = true) (hg : w.heap[g]? = some (.cells cur ty (0, 0))) (hro : RO (.arr n k) w [] xs cur.toList) (hb : X g) :
    ∃ G' B', (∀ i, G'.D i ↔ (i = j ∨ G.D i)) ∧ Inv c ((j, .arr n k xs) :: h) G' w B' (fun b => X b ∧ ¬ b ∈ [g]) sl vs ∧ G'.L j = .pointer (some ⟨g, 0, none⟩) ∧ Pres G w (NN c h B X) G' w (NN c ((j, .arr n k xs) :: h) B' (fun b => X b ∧ ¬ b ∈ [g])) := by
  let v : Value := .pointer (some ⟨g, 0, none⟩)
  have hp := Ge.ext_pres hj v k (fun _ _ => Go.undef) w (NN c h B X)
  obtain ⟨i1, p1⟩ := I.add (G' := G.ext j v k (fun _ _ => Go.undef)) hp j (.arr n k xs) [g] ((j, .arr n k xs) :: h) (I.fresh hj) (.inl rfl) (fun i => look_cons h j _ i) (by simp) (fun b hbb => by simp only [List.mem_singleton] at hbb; rw [hbb]; exact hb) (fun N hN => by
    simp only [RootR, Ge.ext, if_true]
    exact ⟨trivial, hf, g, cur, ty, rfl, rfl, hg, hro⟩)
  exact ⟨_, _, fun i => Iff.rfl, i1, by simp [Ge.ext, v], p1⟩
end
end Go.TM

/- The machine's own part of append, make, build: cells and blocks. -/
set_option linter.unusedVariables false
set_option linter.unusedSimpArgs false
namespace Go.TM
open Go
structure Grown (w w' : World) (og : Option Nat) : Prop where
  os : w'.os = w.os
  tape : w'.tape = w.tape
  output : w'.output = w.output
  size : w.heap.size ≤ w'.heap.size
  block : ∀ b, b < w.heap.size → some b ≠ og → w'.heap[b]? = w.heap[b]?
theorem Grown.alloc (w : World) (o : Obj) (og : Option Nat) : Grown w (w.alloc o) og :=
  ⟨rfl, rfl, rfl, by simp, fun b hb _ => heap_alloc_old w o b hb⟩
theorem Grown.alloc' (w : World) (o : Obj) (og : Option Nat) : Grown w (w.drew.alloc o) og :=
  ⟨rfl, rfl, rfl, by simp, fun b hb _ => heap_alloc_old w.drew o b hb⟩
section
variable {P : Program} {w : World}
theorem run_append_gen (t u ty e : TypeId) (i : TypeInfo) (z : Value) (ht : P.underlying t = some (.slice e)) (hu : P.underlying u = some .string ∨ ∃ e', P.underlying u = some (.slice e')) (hi : P.info? e = some i) (hz : i.zero = some z) (hzs : z.cells.size = i.size)
    (x : Value) (m : Nat) (news : List Value) (hl : news.length = m * i.size) (hlen : (Builtin.lenOf x).run P w = .ok m w) (hnews : ∀ w', w'.heap = w.heap → (Builtin.firstCells i.size m x).run P w' = .ok news.toArray w') (h1 : ∀ u, u ∈ news → u.oneCell' = true)
    (base : Option Nat) (n cap : Nat) (olds : List Value) (hlo : olds.length = n * i.size)
    (hbase : (base = none ∧ n = 0 ∧ cap = 0) ∨ ∃ g cur ce fr, base = some g ∧ w.heap[g]? = some (.cells cur ce fr) ∧ Free fr cur.size ∧ n ≤ cap ∧ 0 ≤ cap ∧ cur.size = cap * i.size ∧ cur.toList.take (n * i.size) = olds)
    (hbytes : (n + m) * i.bytes ≤ 140737488355328) (hb0 : 0 < i.bytes) :
    ∃ v' w', (Builtin.append_ #[t, u] ty #[.slice (base.map fun g => ⟨g, 0, none⟩) n cap, x]).run P w = .ok v' w' ∧ Grown w w' base ∧
      ((v' = .slice none 0 0 ∧ n + m = 0) ∨ ∃ g' cap' cur' ce' fr', v' = .slice (some ⟨g', 0, none⟩) (n + m) cap' ∧ w'.heap[g']? = some (.cells cur' ce' fr') ∧ Free fr' cur'.size ∧ n + m ≤ cap' ∧ 0 ≤ cap' ∧ cur'.size = cap' * i.size ∧ cur'.toList.take ((n + m) * i.size) = olds ++ news ∧ (base = some g' ∨ g' = w.heap.size)) := by
  have hzero : ∃ d, P.underlying u = some d ∧ (match d with | .int _ => true | _ => false) = false := by
    rcases hu with hu | ⟨e', hu⟩ <;> exact ⟨_, hu, rfl⟩
  have hnm : n + m ≤ 140737488355328 := Nat.le_trans (Nat.le_mul_of_pos_right _ hb0) hbytes
  have hlt : (olds ++ news).length = (n + m) * i.size := by rw [List.length_append, hlo, hl, Nat.add_mul]
  have grow : ∀ (old : Nat), ∃ w', Grown w w' base ∧ w' = w.drew.alloc (.cells (olds.toArray ++ news.toArray ++ Builtin.zeroCells z.cells (grownCap w (n + m) old e - (n + m))) e) ∧ ∃ g' cap' cur' ce' fr', Value.slice (some ⟨w.heap.size, 0, none⟩) (n + m) (grownCap w (n + m) old e) = .slice (some ⟨g', 0, none⟩) (n + m) cap' ∧ w'.heap[g']? = some (.cells cur' ce' fr') ∧ Free fr' cur'.size ∧ n + m ≤ cap' ∧ 0 ≤ cap' ∧ cur'.size = cap' * i.size ∧ cur'.toList.take ((n + m) * i.size) = olds ++ news ∧ (base = some g' ∨ g' = w.heap.size) := by
    intro old
    have hge := grownCap_ge w (n + m) old e
    have hcm := Nat.zero_le (grownCap w (n + m) old e)
    refine ⟨_, Grown.alloc' w _ _, rfl, w.heap.size, _, _, _, _, rfl, heap_alloc_new w.drew _, .inr (Nat.le_refl 0), hge, hcm, ?_, ?_, .inr rfl⟩
    · simp only [Array.size_append, List.size_toArray, size_zeroCells, hzs, hlo, hl, ← Nat.add_mul]
      congr 1
      omega
    · simp only [Array.toList_append, List.append_assoc]
      rw [← List.append_assoc, ← hlt]
      exact List.take_left
  have h63 : ¬ (9223372036854775807 < ((n : Int) + (m : Int))) := by omega
  rcases hbase with ⟨rfl, rfl, rfl⟩ | ⟨g, cur, ce, fr, rfl, hg, hfr, hnc, hcm, hcs, htake⟩
  · have ho : olds = [] := List.eq_nil_of_length_eq_zero (by simpa using hlo)
    subst ho
    by_cases hm : m = 0
    · subst hm
      refine ⟨.slice none 0 0, w, ?_, ⟨rfl, rfl, rfl, Nat.le_refl _, fun _ _ _ => rfl⟩, .inl ⟨rfl, rfl⟩⟩
      rcases hu with hu | ⟨e', hu⟩ <;> simp [Builtin.append_, run_underlying ht, run_underlying hu, sizeOf, typeInfo, hi, hlen, hnews w rfl]
    · obtain ⟨w', h1', h2', h3'⟩ := grow 0
      refine ⟨_, w', ?_, h1', .inr h3'⟩
      subst h2'
      have h48 : ¬ (281474976710656 < Builtin.nextslicecap m 0 * i.bytes) := by rw [nextslicecap_zero (by omega)]; simp only [Nat.zero_add] at hbytes; omega
      simp only [Int.natCast_zero, Int.zero_add] at h63
      rcases hu with hu | ⟨e', hu⟩ <;> simp [Builtin.append_, run_underlying ht, run_underlying hu, sizeOf, typeInfo, zeroValue, hi, hz, hlen, hm, h63, h48, Question.forced, run_firstCells_none, hnews w.drew rfl, newRow, grownCap]
  · by_cases hroom : n + m ≤ cap
    · have hfit : n * i.size + news.length ≤ cur.size := by rw [hl, hcs, ← Nat.add_mul]; exact Nat.mul_le_mul_right _ hroom
      obtain ⟨w', hr, ho, hb⟩ := run_storeCells_blk P g ce fr ⟨g, n * i.size, none⟩ news 0 (n * i.size) cur w hg hfr (fun j => by rw [Nat.zero_add, add_blk]) hfit h1
      refine ⟨_, w', ?_, ⟨ho.os, ho.tape, ho.output, Nat.le_of_eq ho.size.symm, fun b _ hne => ho.block b (fun e => hne (by rw [e]))⟩, .inr ⟨g, cap, _, ce, fr, rfl, hb, ?_, hroom, hcm, ?_, ?_, .inl rfl⟩⟩
      · rcases hu with hu | ⟨e', hu⟩ <;> simp [Builtin.append_, run_underlying ht, run_underlying hu, sizeOf, typeInfo, hi, hlen, hroom, hnews w rfl, Addr.add_lit, hr]
      · have : (List.take (n * i.size) cur.toList ++ news ++ List.drop (n * i.size + news.length) cur.toList).toArray.size = cur.size := by
          simp only [List.size_toArray, List.length_append, List.length_take, List.length_drop, Array.length_toList]; omega
        rw [this]; exact hfr
      · simp only [List.size_toArray, List.length_append, List.length_take, List.length_drop, Array.length_toList]
        omega
      · rw [htake, ← hlt]
        exact List.take_left
    · obtain ⟨w', h1', h2', h3'⟩ := grow cap
      refine ⟨_, w', ?_, h1', .inr h3'⟩
      subst h2'
      have h48 : ¬ (281474976710656 < Builtin.nextslicecap (n + m) cap * i.bytes) := by
        have := growslice_fits (need := n + m) (old := cap) (by omega) hbytes
        omega
      have hfo : (Builtin.firstCells i.size n (.slice (some ⟨g, 0, none⟩) n cap)).run P w.drew = .ok olds.toArray w.drew :=
        run_firstCells_some (P := P) w.drew i.size n ⟨g, 0, none⟩ n cap olds hlo (fun j v hj => by
          rw [add_plain]
          have hj' : cur.toList[j]? = some v := by
            rw [← htake, List.getElem?_take] at hj
            split at hj
            · exact hj
            · cases hj
          have : w.drew.heap[g]? = some (.cells cur ce fr) := hg
          simp only [World.cell?, this]
          simpa using hj')
      rcases hu with hu | ⟨e', hu⟩ <;>
        (simp [Builtin.append_, run_underlying ht, run_underlying hu, sizeOf, typeInfo, zeroValue, hi, hz, hlen, hroom, h63, h48, Question.forced, hfo, hnews w.drew rfl, newRow, grownCap]
         congr 2
         apply Array.ext'
         simp [List.append_assoc])
theorem cyc {α : Type} [Inhabited α] (z : List α) : ∀ n : Nat, (List.range (n * z.length)).map (fun i => z[i % z.length]!) = (List.replicate n z).flatten
  | 0 => by simp
  | n + 1 => by
    rw [Nat.succ_mul, List.range_add, List.map_append, cyc z n, List.replicate_succ', List.flatten_append]
    congr 1
    simp only [List.map_map, List.flatten_cons, List.flatten_nil, List.append_nil]
    apply List.ext_getElem?
    intro i
    by_cases hi : i < z.length
    · have : (n * z.length + i) % z.length = i := by rw [Nat.add_comm, Nat.add_mul_mod_self_right]; exact Nat.mod_eq_of_lt hi
      simp [hi, this]
    · simp [hi]
theorem cycA (z : Array Value) (n s : Nat) (hs : z.size = s) : ((Array.range (n * s)).map fun i => z[i % z.size]!).toList = (List.replicate n z.toList).flatten := by
  subst hs
  rw [Array.toList_map, Array.toList_range, ← cyc z.toList n]
  simp
  intro a _
  rw [getElem!_def]
  cases z[a % z.size]? <;> rfl
theorem flat_take {α : Type} (z : List α) {n j : Nat} (hj : j < n) : (((List.replicate n z).flatten.drop (j * z.length)).take z.length) = z := by
  obtain ⟨m, rfl⟩ : ∃ m, n = j + (m + 1) := ⟨n - j - 1, by omega⟩
  rw [← List.replicate_append_replicate, List.flatten_append]
  have : (List.replicate j z).flatten.length = j * z.length := by simp
  rw [← this, List.drop_left, List.replicate_succ, List.flatten_cons, List.take_left]
theorem foldl_set (off : Nat) : ∀ (l : List Value) (k : Nat) (cur : Array Value), off + k + l.length ≤ cur.size → ((l.zipIdx k).foldl (fun cs (x : Value × Nat) => cs.setIfInBounds (off + x.2) x.1) cur).toList = cur.toList.take (off + k) ++ l ++ cur.toList.drop (off + k + l.length)
  | [], k, cur, _ => by simp
  | v :: l, k, cur, h => by
    simp only [List.length_cons] at h
    rw [List.zipIdx_cons, List.foldl_cons, foldl_set off l (k + 1) (cur.setIfInBounds (off + k) v) (by simp only [Array.size_setIfInBounds]; omega), Array.toList_setIfInBounds]
    exact set_list cur.toList (off + k) v l (by rw [Array.length_toList]; omega)
theorem fill_sim {G : Ge} {N : Nat → Prop} (place size : Nat → Option (Nat × Nat)) (hps : ∀ i p, size i = some p → place i = some p) (ev : Operand → AV) (val : Operand → Value) (hev : ∀ x, AVR G w N (ev x) (val x)) :
    ∀ (parts : List (Nat × Operand)) (cs cs' : List AV) (cur : Array Value), fill size ev parts cs = some cs' → AVRs G w N cs cur.toList → (∀ u, u ∈ cur.toList → u.oneCell' = true) →
      ∃ cur', Instr.fill place cur (parts.map fun x => (x.1, val x.2)) = some cur' ∧ AVRs G w N cs' cur'.toList ∧ ∀ u, u ∈ cur'.toList → u.oneCell' = true
  | [], cs, cs', cur, h, ha, h1 => by
    simp only [fill, Option.some.injEq] at h
    subst h
    exact ⟨cur, rfl, ha, h1⟩
  | (i, x) :: r, cs, cs', cur, h, ha, h1 => by
    simp only [fill] at h
    cases hs : size i with
    | none => rw [hs] at h; cases h
    | some p =>
      obtain ⟨off, n⟩ := p
      rw [hs] at h
      simp only at h
      cases hc : (Nat.beq (cellsOf (ev x)).length n && Nat.blt 0 n && Nat.ble (off + n) cs.length) with
      | false => rw [hc] at h; cases h
      | true =>
        rw [hc] at h
        simp only [cond_true] at h
        simp only [Bool.and_eq_true, Nat.blt_eq, Nat.ble_eq] at hc
        obtain ⟨⟨c1, c2⟩, c3⟩ := hc
        have c1 := Nat.eq_of_beq_eq_true c1
        obtain ⟨r1, r2⟩ := avr_cells (hev x) (by intro e; rw [e] at c1; simp at c1; omega)
        have hl := ha.length
        have hl2 := r1.length
        simp only [Array.length_toList] at hl hl2
        have hv : ((val x).cells.zipIdx.foldl (fun cs (x : Value × Nat) => cs.setIfInBounds (off + x.2) x.1) cur).toList = cur.toList.take off ++ (val x).cells.toList ++ cur.toList.drop (off + (val x).cells.toList.length) := by
          rw [← Array.foldl_toList, Array.toList_zipIdx]
          have := foldl_set off (val x).cells.toList 0 cur (by simp only [Array.length_toList]; omega)
          simpa using this
        obtain ⟨cur', e1, e2, e3⟩ := fill_sim place size hps ev val hev r (setRange cs off (cellsOf (ev x))) cs' _ h (by
          rw [hv]
          unfold setRange
          refine ((ha.take off).append r1).append ?_
          have := ha.drop (off + (cellsOf (ev x)).length)
          rw [c1] at this ⊢
          rw [Array.length_toList, ← hl2, c1]
          exact this) (fun u hu => by
          rw [hv] at hu
          rcases List.mem_append.1 hu with hu | hu
          · rcases List.mem_append.1 hu with hu | hu
            · exact h1 u (List.mem_of_mem_take hu)
            · exact r2 u hu
          · exact h1 u (List.mem_of_mem_drop hu))
        refine ⟨cur', ?_, e2, e3⟩
        simp only [List.map_cons, Instr.fill, hps i _ hs]
        rw [if_neg]
        · exact e1
        · simp only [Bool.or_eq_true, decide_eq_true_eq, not_or, bne_iff_ne, ne_eq, Decidable.not_not]
          omega
end
end Go.TM

/- Operations that make and write: new blocks, stores. -/
set_option linter.unusedVariables false
set_option linter.unusedSimpArgs false
namespace Go.TM
open Go
section
variable {P : Program} {E : Env} {c : Ctx} {h : List (Nat × Root)} {G : Ge} {w : World} {B : Nat → List Nat} {X : Nat → Prop} {sl : Nat → AV} {vs : Nat → Value}
theorem Inv.grown (I : Inv c h G w B X sl vs) {w' : World} {og : Option Nat} (hg : Grown w w' og) (hog : ∀ g, og = some g → X g) :
    Inv c h G w' B (fun b => X b ∨ (w.heap.size ≤ b ∧ b < w'.heap.size)) sl vs ∧ Pres G w (NN c h B X) G w' (NN c h B (fun b => X b ∨ (w.heap.size ≤ b ∧ b < w'.heap.size))) :=
  I.world hg.os hg.tape hg.output hg.size (fun b hb hX => hg.block b hb (fun e => hX (hog b e.symm)))
theorem OnlyBlock.grown {w w' : World} {g : Nat} (h : OnlyBlock w w' g) : Grown w w' (some g) :=
  ⟨h.os, h.tape, h.output, Nat.le_of_eq h.size.symm, fun b _ hne => h.block b (fun e => hne (by rw [e]))⟩
theorem own_flat : ∀ {k : K} {w : World} {b : List Nat} {x : k.T} {cs : List Value}, k.flat = true → Own k w b x cs → b = []
  | .int _, _, _, _, _, _, h => by simp only [Own] at h; exact h.1
  | .bool, _, _, _, _, _, h => by simp only [Own] at h; exact h.1
  | .str, _, _, _, _, _, h => by simp only [Own] at h; exact h.1
  | .list _, _, _, _, _, hf, _ => by simp [K.flat] at hf
  | .arr _ _, _, _, _, _, _, h => by simp only [Own] at h
  | .pair a b, _, _, _, _, hf, h => by
    simp only [K.flat, Bool.and_eq_true] at hf
    simp only [Own] at h
    obtain ⟨b1, b2, c1, c2, rfl, rfl, h1, h2⟩ := h
    rw [own_flat hf.1 h1, own_flat hf.2 h2]; rfl
theorem ro_flat : ∀ {k : K} {w : World} {rs : List Nat} {x : k.T} {cs : List Value}, k.flat = true → RO k w rs x cs → RO k w [] x cs
  | .int _, _, _, _, _, _, h => h
  | .bool, _, _, _, _, _, h => h
  | .str, _, _, _, _, _, h => h
  | .list _, _, _, _, _, hf, _ => by simp [K.flat] at hf
  | .arr n k, _, _, _, _, hf, h => by
    simp only [RO] at h ⊢
    exact ⟨h.1, h.2.1, fun j hj => ro_flat (by simpa [K.flat] using hf) (h.2.2 j hj)⟩
  | .pair a b, _, _, _, _, hf, h => by
    simp only [K.flat, Bool.and_eq_true] at hf
    simp only [RO] at h ⊢
    obtain ⟨c1, c2, h0, h1, h2⟩ := h
    exact ⟨c1, c2, h0, ro_flat hf.1 h1, ro_flat hf.2 h2⟩
theorem ro_own : ∀ {k : K} {w : World} {rs : List Nat} {x : k.T} {cs : List Value}, k.flat = true → k.noArr = true → RO k w rs x cs → Own k w [] x cs
  | .int _, _, _, _, _, _, _, h => by simp only [RO] at h; simp only [Own]; exact ⟨trivial, h⟩
  | .bool, _, _, _, _, _, _, h => by simp only [RO] at h; simp only [Own]; exact ⟨trivial, h⟩
  | .str, _, _, _, _, _, _, h => by simp only [RO] at h; simp only [Own]; exact ⟨trivial, h⟩
  | .list _, _, _, _, _, hf, _, _ => by simp [K.flat] at hf
  | .arr n k, _, _, _, _, _, ha, h => by simp [K.noArr] at ha
  | .pair a b, _, _, _, _, hf, ha, h => by
    simp only [K.flat, K.noArr, Bool.and_eq_true] at hf ha
    simp only [RO] at h
    simp only [Own]
    obtain ⟨c1, c2, h0, h1, h2⟩ := h
    exact ⟨[], [], c1, c2, rfl, h0, ro_own hf.1 ha.1 h1, ro_own hf.2 ha.2 h2⟩
theorem Own.one : ∀ {k : K} {w : World} {b : List Nat} {x : k.T} {cs : List Value}, Own k w b x cs → ∀ u, u ∈ cs → u.oneCell' = true
  | .int _, _, _, _, _, h, u, hu => by simp only [Own] at h; rw [h.2] at hu; simp only [List.mem_singleton] at hu; rw [hu]; rfl
  | .bool, _, _, _, _, h, u, hu => by simp only [Own] at h; rw [h.2] at hu; simp only [List.mem_singleton] at hu; rw [hu]; rfl
  | .str, _, _, _, _, h, u, hu => by simp only [Own] at h; rw [h.2] at hu; simp only [List.mem_singleton] at hu; rw [hu]; rfl
  | .list _, _, _, _, cs, h, u, hu => by
    have hl := h.len
    match cs, hl, h, hu with
    | [v], _, h, hu =>
      obtain ⟨A, cap, rfl, _⟩ := own_slice h
      simp only [List.mem_singleton] at hu; rw [hu]; rfl
  | .arr n k, _, _, _, _, h, _, _ => by simp only [Own] at h
  | .pair a b, _, _, _, _, h, u, hu => by
    simp only [Own] at h
    obtain ⟨b1, b2, c1, c2, rfl, rfl, h1, h2⟩ := h
    rcases List.mem_append.1 hu with hu | hu
    · exact h1.one u hu
    · exact h2.one u hu
end
section
variable {P : Program} {E : Env} {c : Ctx} {h : List (Nat × Root)} {G : Ge} {w : World} {B : Nat → List Nat} {X : Nat → Prop} {sl : Nat → AV} {vs : Nat → Value} {ρ : Type} {K : AV → List (Nat × Root) → Nat → Option ρ} {r : ρ} {nid m : Nat}
theorem Out.of {G' : Ge} {h' : List (Nat × Root)} {w' : World} {B' : Nat → List Nat} {X : Nat → Prop} {v : AV} {val : Value} {n' : Nat} (I : Inv c h' G' w' B' X sl vs) (hK : K v h' n' = some r) (h1 : ∀ j, G.D j → G'.D j) (h2 : ∀ j, G'.D j → G.D j ∨ (nid ≤ j ∧ j < n')) (hv : AVR G' w' (NN c h' B' X) v val) : Out c K r G nid sl vs val w' := by
  obtain ⟨i, p⟩ := I.less Emp (fun _ h => h.elim)
  exact ⟨v, h', n', G', B', hK, h1, h2, i, AVR.pres p _ _ hv⟩
theorem Out.list {h' : List (Nat × Root)} {w' : World} {B' : Nat → List Nat} (I : Inv c h' G w' B' X sl vs) (hj : ¬ G.D nid) {k : TM.K} {xs : List k.T} {v : Value} {bs : List Nat} (ho : Own (.list k) w' bs xs [v]) (hn : bs.Nodup) (hb : ∀ b, b ∈ bs → X b) (hK : K (.own nid) ((nid, .list 0 k xs) :: h') (nid + 1) = some r) : Out c K r G nid sl vs v w' := by
  obtain ⟨G', B'', d, i, l, p⟩ := I.addList hj ho hn hb
  refine Out.of i hK (fun j hd => (d j).2 (.inr hd)) (fun j hd => ?_) ?_
  · rcases (d j).1 hd with rfl | hd
    · exact .inr ⟨Nat.le_refl _, Nat.lt_succ_self _⟩
    · exact .inl hd
  · simp only [AVR]
    exact ⟨(d nid).2 (.inl rfl), l.symm, by obtain ⟨A, cap, rfl, _⟩ := own_slice ho; rfl⟩
theorem Out.box {h' : List (Nat × Root)} {w' : World} {B' : Nat → List Nat} (I : Inv c h' G w' B' X sl vs) (hj : ¬ G.D nid) {cs : List AV} {g : Nat} {cur : Array Value} {ty : TypeId} (hg : w'.heap[g]? = some (.cells cur ty (0, 0))) (h1 : ∀ u, u ∈ cur.toList → u.oneCell' = true) (hcs : AVRs G w' (NN c h' B' X) cs cur.toList) (hb : X g) (hK : K (.box nid 0) ((nid, .box cs) :: h') (nid + 1) = some r) : Out c K r G nid sl vs (.pointer (some ⟨g, 0, none⟩)) w' := by
  obtain ⟨G', B'', d, i, l, p⟩ := I.addBox hj hg h1 hcs hb
  refine Out.of i hK (fun j hd => (d j).2 (.inr hd)) (fun j hd => ?_) ?_
  · rcases (d j).1 hd with rfl | hd
    · exact .inr ⟨Nat.le_refl _, Nat.lt_succ_self _⟩
    · exact .inl hd
  · simp only [AVR]
    exact ⟨(d nid).2 (.inl rfl), g, l, rfl⟩
theorem Out.arr {h' : List (Nat × Root)} {w' : World} {B' : Nat → List Nat} (I : Inv c h' G w' B' X sl vs) (hj : ¬ G.D nid) {n : Nat} {k : TM.K} {xs : List k.T} {g : Nat} {cur : Array Value} {ty : TypeId} (hf : k.flat = true) (hg : w'.heap[g]? = some (.cells cur ty (0, 0))) (hro : RO (.arr n k) w' [] xs cur.toList) (hb : X g) (hK : K (.box nid 0) ((nid, .arr n k xs) :: h') (nid + 1) = some r) : Out c K r G nid sl vs (.pointer (some ⟨g, 0, none⟩)) w' := by
  obtain ⟨G', B'', d, i, l, p⟩ := I.addArr hj hf hg hro hb
  refine Out.of i hK (fun j hd => (d j).2 (.inr hd)) (fun j hd => ?_) ?_
  · rcases (d j).1 hd with rfl | hd
    · exact .inr ⟨Nat.le_refl _, Nat.lt_succ_self _⟩
    · exact .inl hd
  · simp only [AVR]
    exact ⟨(d nid).2 (.inl rfl), g, l, rfl⟩
structure Room (K : AV → List (Nat × Root) → Nat → Option ρ) (r : ρ) (G : Ge) (nid m : Nat) : Prop where
  le : ∀ v h n, K v h n = some r → n ≤ m
  free : ∀ j, nid ≤ j → j < m → ¬ G.D j
theorem Room.one (R : Room K r G nid m) {v : AV} {h' : List (Nat × Root)} (hK : K v h' (nid + 1) = some r) : ¬ G.D nid :=
  R.free nid (Nat.le_refl _) (R.le _ _ _ hK)
theorem sim_v {s : Sem Value} {val : Value} {w' : World} (hs : s.run P w = .ok val w') (ho : Out c K r G nid sl vs val w') : OpSim P c K r G nid sl vs (do pure (Next.value (← s))) w :=
  .inl ⟨val, w', run_v hs, ho⟩
theorem RO.of_els {k : TM.K} {n : Nat} {w : World} {rs : List Nat} {xs : List k.T} {cs : List Value} (h1 : xs.length = n) (h2 : cs.length = n * k.size) (h3 : ∀ j (e : k.T), xs[j]? = some e → RO k w rs e ((cs.drop (j * k.size)).take k.size)) : RO (.arr n k) w rs xs cs := by
  simp only [RO]
  exact ⟨h1, h2, fun j hj => h3 j _ (List.getElem?_eq_getElem hj)⟩
theorem alloc_sim (I : Inv c h G w B Emp sl vs) (hE : TabOk P E) (R : Room K r G nid m) {t : Nat} (hr : (semAlloc E t).run nid h K = some r) : OpSim P c K r G nid sl vs (do pure (Next.value (← Instr.alloc t true (.tuple #[])))) w := by
  unfold semAlloc at hr
  split at hr
  · rename_i i hi
    have ht := hE t i hi
    obtain ⟨z, hz, hzc, hz1, hzs, _⟩ := ht.zero (w := w)
    have hrun : (Instr.alloc t true (.tuple #[])).run P w = .ok (.pointer (some ⟨w.heap.size, 0, none⟩)) (w.alloc (.cells z.cells t)) := by
      simp [Instr.alloc, hz, newVar, newRow]
    have hnew : (w.alloc (.cells z.cells t)).heap[w.heap.size]? = some (.cells z.cells t (0, 0)) := heap_alloc_new w _
    have hX : Emp w.heap.size ∨ (w.heap.size ≤ w.heap.size ∧ w.heap.size < (w.alloc (.cells z.cells t)).heap.size) := .inr ⟨Nat.le_refl _, by simp⟩
    split at hr
    · rename_i n e hd
      split at hr
      · rename_i j hj
        split at hr
        · rename_i k hk
          obtain ⟨hc, hr⟩ := bif_run hr
          simp only [Bool.and_eq_true] at hc
          have ha : AVRs G w (NN c h B Emp) i.zero z.cells.toList := by rw [← hzc]; exact avrs_const _
          obtain ⟨xs, h', bss, e1, e2, e3, e4, e5, e6⟩ := impList_out k n I hr ha
          simp only [HM.run] at e1
          have hnid := R.one e1
          obtain ⟨i2, p2⟩ := e2.inv.grown (Grown.alloc w (.cells z.cells t) none) (fun g hg => by cases hg)
          refine sim_v hrun (Out.arr i2 hnid hc.1 hnew (RO.of_els e3 e5 (fun q x hx => ?_)) (.inr ⟨Nat.le_refl _, by simp⟩) e1)
          obtain ⟨b, _, ho⟩ := e6 q x hx
          have hb := own_flat hc.1 ho
          subst hb
          exact ho.ro.move (fun b hb => by cases hb)
        · cases hr
      · cases hr
    · simp only [HM.run] at hr
      have hnid := R.one hr
      obtain ⟨i2, p2⟩ := I.grown (Grown.alloc w (.cells z.cells t) none) (fun g hg => by cases hg)
      refine sim_v hrun (Out.box i2 hnid hnew hz1 ?_ (.inr ⟨Nat.le_refl _, by simp⟩) hr)
      rw [← hzc]; exact avrs_const _
  · cases hr
theorem box_sim (I : Inv c h G w B Emp sl vs) (R : Room K r G nid m) {t : Nat} {a : AV} {va : Value} (hr : (semBox E t a).run nid h K = some r) (ha : AVR G w (NN c h B Emp) a va) : OpSim P c K r G nid sl vs (do pure (Next.value (← Instr.box t va))) w := by
  have hrun : (Instr.box t va).run P w = .ok (.pointer (some ⟨w.heap.size, 0, none⟩)) (w.alloc (.cells va.cells t)) := by
    simp [Instr.box, newVar, newRow]
  have hnew : (w.alloc (.cells va.cells t)).heap[w.heap.size]? = some (.cells va.cells t (0, 0)) := heap_alloc_new w _
  obtain ⟨i2, p2⟩ := I.grown (Grown.alloc w (.cells va.cells t) none) (fun g hg => by cases hg)
  unfold semBox at hr
  split at hr
  · rename_i n k xs
    obtain ⟨hc, hr⟩ := bif_run hr
    simp only [HM.run] at hr
    simp only [AVR] at ha
    obtain ⟨rs, cs, rfl, h1, h2⟩ := ha
    refine sim_v hrun (Out.arr i2 (R.one hr) hc hnew ((ro_flat (k := .arr n k) (by simpa [TM.K.flat] using hc) h1).move (fun b hb => by cases hb)) (.inr ⟨Nat.le_refl _, by simp⟩) hr)
  · split at hr
    · obtain ⟨hc, hr⟩ := bif_run hr
      simp only [Bool.and_eq_true, Nat.blt_eq] at hc
      have hc1 := Nat.eq_of_beq_eq_true hc.1
      simp only [HM.run] at hr
      obtain ⟨r1, r2⟩ := avr_cells ha (by intro e; rw [e] at hc1; simp at hc1; omega)
      exact sim_v hrun (Out.box i2 (R.one hr) hnew r2 (AVRs.pres p2 _ _ r1) (.inr ⟨Nat.le_refl _, by simp⟩) hr)
    · cases hr
theorem mapM_get {α β : Type} {g : α → Option β} : ∀ {l : List α} {r : List β}, l.mapM g = some r → ∀ {i : Nat} {x : α}, l[i]? = some x → ∃ y, g x = some y ∧ r[i]? = some y
  | [], r, h, i, x, hx => by simp at hx
  | a :: l, r, h, i, x, hx => by
    simp only [List.mapM_cons, Option.bind_eq_bind, Option.pure_def] at h
    cases ha : g a with
    | none => simp [ha] at h
    | some y =>
      cases hl : l.mapM g with
      | none => simp [ha, hl] at h
      | some r' =>
        simp [ha, hl] at h
        subst h
        cases i with
        | zero => simp at hx; subst hx; exact ⟨y, ha, rfl⟩
        | succ i => simp at hx; simpa using mapM_get hl hx
theorem build_sim (I : Inv c h G w B Emp sl vs) (hE : TabOk P E) (R : Room K r G nid m) {t : Nat} {ev : Operand → AV} {val : Operand → Value} (hev : ∀ x, AVR G w (NN c h B Emp) (ev x) (val x)) {parts : Array (Nat × Operand)} (hr : (semBuild E ev t parts.toList).run nid h K = some r) : OpSim P c K r G nid sl vs (do pure (Next.value (← Instr.build t (parts.map fun x => (x.1, val x.2))))) w := by
  unfold semBuild at hr
  split at hr
  · rename_i i hi
    have ht := hE t i hi
    have hz := ht.zero (w := w)
    obtain ⟨⟨ti, hti, _, _, z, hzz, hzc, hz1, hzs, _⟩, hdesc⟩ := ht
    have hza : AVRs G w (NN c h B Emp) i.zero z.cells.toList := by rw [← hzc]; exact avrs_const _
    split at hr
    · rename_i fs hd
      rw [hd] at hdesc
      obtain ⟨fields, h1, h2, _, _, _, places, hp⟩ := hdesc
      split at hr
      · rename_i cs hcs
        obtain ⟨cur', e1, e2, e3⟩ := fill_sim (G := G) (N := NN c h B Emp) (places.toArray[·]?) _ (fun f p hf => by
          simp only [Option.map_eq_some_iff] at hf
          obtain ⟨⟨o, j⟩, hf, rfl⟩ := hf
          obtain ⟨fields', fl, g1, g2, g3, g4⟩ := fieldOf_ok hE hf
          rw [h1] at g1
          injection g1 with g1; injection g1 with g1
          subst g1
          obtain ⟨y, k1, k2⟩ := mapM_get hp (by rw [Array.getElem?_toList]; exact g2)
          obtain ⟨tj, l1, l2, _⟩ := g4.info
          rw [l1] at k1
          injection k1 with k1
          simp only [List.getElem?_toArray]
          rw [k2, ← k1]
          simp only [g3, l2]) ev val hev parts.toList i.zero cs z.cells hcs hza hz1
        refine Still.sim I ⟨.agg cur', _, run_build w t _ cur' ?_, hr, by simp only [AVR]; exact ⟨cur', rfl, e3, e2⟩⟩
        unfold Program.built
        rw [hti, h1]
        simp only [hzz, hp]
        rw [Array.toList_map]
        exact e1
      · cases hr
    · rename_i n e hd
      rw [hd] at hdesc
      split at hr
      · rename_i j hj
        have htj := hE e j hj
        split at hr
        · rename_i k cs hk hcs
          obtain ⟨hc, hr⟩ := bif_run hr
          obtain ⟨tj, l1, l2, _⟩ := htj.info
          obtain ⟨cur', e1, e2, e3⟩ := fill_sim (G := G) (N := NN c h B Emp) (fun f => some (f * j.size, j.size)) _ (fun f p hf => hf) ev val hev parts.toList i.zero cs z.cells hcs hza hz1
          obtain ⟨xs, h', bss, f1, f2, f3, f4, f5, f6⟩ := impList_out k n I hr e2
          simp only [HM.run] at f1
          have hrun : (Instr.build t (parts.map fun x => (x.1, val x.2))).run P w = .ok (.agg cur') w := by
            refine run_build w t _ cur' ?_
            unfold Program.built
            rw [hti, hdesc]
            simp only [hzz, l1]
            rw [Array.toList_map, l2]
            exact e1
          refine sim_v hrun (Out.of f2.inv f1 (fun _ h => h) (fun _ h => .inl h) ?_)
          simp only [AVR]
          refine ⟨[], cur', rfl, RO.of_els f3 f5 (fun q x hx => ?_), fun b hb => by cases hb⟩
          obtain ⟨b, _, ho⟩ := f6 q x hx
          have hb := own_flat hc ho
          subst hb
          exact ho.ro
        · cases hr
      · cases hr
    · cases hr
  · cases hr
theorem Own.of_els {k : TM.K} {n cap : Nat} {w : World} {g : Nat} {cur : Array Value} {ty : TypeId} {fr : Nat × Nat} {xs : List k.T} {bss : List (List Nat)} (hg : w.heap[g]? = some (.cells cur ty fr)) (hf : Free fr cur.size) (hn : n ≤ cap) (hc : 0 ≤ cap) (hs : cur.size = cap * k.size) (h1 : xs.length = n) (h2 : bss.length = n) (h3 : ∀ j (e : k.T), xs[j]? = some e → ∃ b, bss[j]? = some b ∧ Own k w b e ((cur.toList.drop (j * k.size)).take k.size)) :
    Own (.list k) w (g :: bss.flatten) xs [.slice (some ⟨g, 0, none⟩) n cap] := by
  simp only [Own]
  exact ⟨_, rfl, .inr ⟨g, cap, cur, ty, fr, bss, by rw [h1], hg, hf, by omega, hc, hs, rfl, by omega, fun j hj => h3 j _ (List.getElem?_eq_getElem hj)⟩⟩
theorem nodup_cons_new {w : World} {g : Nat} {l : List Nat} (h : l.Nodup) (hlt : ∀ b, b ∈ l → b < w.heap.size) (hg : w.heap.size ≤ g) : (g :: l).Nodup :=
  List.nodup_cons.2 ⟨fun hm => by have := hlt g hm; omega, h⟩
theorem Limbo.lt {h' : List (Nat × Root)} {bs : List Nat} (l : Limbo c h G w B X sl vs h' bs) : ∀ b, b ∈ bs → b < w.heap.size := fun b hb => (l.inv.lim b (.inr hb)).1
theorem replicateCells_avrs {G : Ge} {N : Nat → Prop} {z : List AV} {zv : List Value} (hz : AVRs G w N z zv) : ∀ n : Nat, AVRs G w N (replicateCells z n) (List.replicate n zv).flatten
  | 0 => by simp [replicateCells, AVRs]
  | n + 1 => by simp only [replicateCells, List.replicate_succ, List.flatten_cons]; exact hz.append (replicateCells_avrs hz n)
theorem replicate_one {z : List Value} (h1 : ∀ u, u ∈ z → u.oneCell' = true) (n : Nat) : ∀ u, u ∈ (List.replicate n z).flatten → u.oneCell' = true := fun u hu => by
  obtain ⟨l, hl, hul⟩ := List.mem_flatten.1 hu
  rw [(List.mem_replicate.1 hl).2] at hul
  exact h1 u hul
theorem buildSlice_sim (I : Inv c h G w B Emp sl vs) (hE : TabOk P E) (R : Room K r G nid m) {t n : Nat} {ev : Operand → AV} {val : Operand → Value} (hev : ∀ x, AVR G w (NN c h B Emp) (ev x) (val x)) {parts : Array (Nat × Operand)} (hr : (semBuildSlice E ev t n parts.toList).run nid h K = some r) : OpSim P c K r G nid sl vs (do pure (Next.value (← Instr.buildSlice t n (parts.map fun x => (x.1, val x.2))))) w := by
  unfold semBuildSlice at hr
  split at hr
  · rename_i e j hj
    obtain ⟨ht, htj⟩ := slElem_ok hE hj
    have hsz := htj.sizeOf (w := w)
    obtain ⟨z, hz, hzc, hz1, hzs, _⟩ := htj.zero (w := w)
    have hza : AVRs G w (NN c h B Emp) j.zero z.cells.toList := by rw [← hzc]; exact avrs_const _
    split at hr
    · rename_i k hk
      obtain ⟨hc, hr⟩ := bif_run hr
      simp only [Bool.and_eq_true, Nat.ble_eq, Nat.blt_eq] at hc
      obtain ⟨⟨hks, hle24⟩, hsz0⟩ := hc
      have hks := Nat.eq_of_beq_eq_true hks
      split at hr
      · rename_i cs hcs
        have hstart : (Array.map (fun x => (if n * j.size = 0 then #[] else z.cells)[x % (if n * j.size = 0 then #[] else z.cells).size]!) (Array.range (n * j.size))).toList = (List.replicate n z.cells.toList).flatten := by
          by_cases h0 : n * j.size = 0
          · rw [h0]
            rcases Nat.mul_eq_zero.1 h0 with h0 | h0
            · subst h0; simp
            · rw [h0] at hzs
              have : z.cells.toList = [] := List.eq_nil_of_length_eq_zero (by simpa using hzs)
              rw [this]; simp
          · simp only [if_neg h0]
            exact cycA z.cells n j.size hzs
        obtain ⟨cur', e1, e2, e3⟩ := fill_sim (G := G) (N := NN c h B Emp) (fun f => some (f * j.size, j.size)) _ (fun f p hf => hf) ev val hev parts.toList _ cs _ hcs (by rw [hstart]; exact replicateCells_avrs hza n) (by rw [hstart]; exact replicate_one hz1 n)
        obtain ⟨xs, h', bss, f1, f2, f3, f4, f5, f6⟩ := impList_out k n I hr e2
        simp only [HM.run] at f1
        have hrun : (Instr.buildSlice t n (parts.map fun x => (x.1, val x.2))).run P w = .ok (.slice (some ⟨w.heap.size, 0, none⟩) n n) (w.alloc (.cells cur' e)) := by
          have hle : ¬ (2 ^ 24 < n * j.size) := by omega
          simp only [Instr.buildSlice, Sem.run_bind, run_underlying ht, Result.andThen_ok, hsz, hle, if_false, Sem.run_pure]
          by_cases h0 : n * j.size = 0
          · simp only [h0, if_true] at e1 ⊢
            simp [Array.toList_map, e1, newRow, Array.map_map] at e1 ⊢
            try simp [e1]
          · simp only [h0, if_false] at e1 ⊢
            simp [hz, e1, newRow, Array.map_map] at e1 ⊢
            try simp [e1]
        have hnew : (w.alloc (.cells cur' e)).heap[w.heap.size]? = some (.cells cur' e (0, 0)) := heap_alloc_new w _
        obtain ⟨i2, p2⟩ := f2.inv.grown (Grown.alloc w (.cells cur' e) none) (fun g hg => by cases hg)
        have hnd : (w.heap.size :: bss.flatten).Nodup := nodup_cons_new f2.nodup f2.lt (Nat.le_refl _)
        have hcur : cur'.size = n * k.size := by rw [← f5]; simp
        have hnm : 0 ≤ n := Nat.zero_le n
        refine sim_v hrun (Out.list i2 (R.one f1) (Own.of_els hnew (.inr (Nat.le_refl 0)) (Nat.le_refl n) hnm hcur f3 f4 (fun q x hx => ?_)) hnd (fun b hb => ?_) f1)
        · obtain ⟨b, hb, ho⟩ := f6 q x hx
          exact ⟨b, hb, ho.move (fun b' hb' => heap_alloc_old w _ b' (f2.lt b' (List.mem_flatten.2 ⟨b, List.mem_of_getElem? hb, hb'⟩)))⟩
        · rcases List.mem_cons.1 hb with rfl | hb
          · exact .inr ⟨Nat.le_refl _, by simp⟩
          · exact .inl (.inr hb)
      · cases hr
    · cases hr
  · cases hr
theorem make_sim (I : Inv c h G w B Emp sl vs) (hE : TabOk P E) (R : Room K r G nid m) {t : Nat} {a b : AV} {va vb : Value} (hr : (semMake E t a b).run nid h K = some r) (ha : AVR G w (NN c h B Emp) a va) (hb : AVR G w (NN c h B Emp) b vb) : OpSim P c K r G nid sl vs (do pure (Next.value (← Instr.makeSlice t va vb))) w := by
  unfold semMake at hr
  split at hr
  · rename_i e j n n' hj
    obtain ⟨ht, htj⟩ := slElem_ok hE hj
    obtain ⟨⟨ti, hti, hts, htb, z, hz, hzc, hz1, hzs, _⟩, _⟩ := htj
    simp only [AVR] at ha hb
    subst ha; subst hb
    split at hr
    · rename_i k hk
      obtain ⟨hc, hr⟩ := bif_run hr
      simp only [Bool.and_eq_true, Nat.blt_eq] at hc
      obtain ⟨⟨hks, hfl⟩, hb0⟩ := hc
      have hks := Nat.eq_of_beq_eq_true hks
      obtain ⟨hb, hr2⟩ := ite_run' hr
      clear hr
      simp only [Bool.and_eq_true, decide_eq_true_eq] at hb
      obtain ⟨⟨hnn, h0⟩, hbytes⟩ := hb
      subst hnn
      have hza : AVRs G w (NN c h B Emp) j.zero z.cells.toList := by rw [← hzc]; exact avrs_const _
      obtain ⟨x, rest, h', bs, c1, c2, e1, e2, e3, e4, e5⟩ := impK_out k I hr2 hza
      rcases rest with _ | ⟨r0, rest⟩
      · simp only at e2
        have hl2 := e5.length
        simp only [List.length_nil] at hl2
        have hc2 : c2 = [] := List.eq_nil_of_length_eq_zero hl2.symm
        subst hc2
        simp only [List.append_nil] at e1
        subst e1
        simp only [HM.run] at e2
        have hbs := own_flat hfl e3
        subst hbs
        obtain ⟨N, rfl⟩ : ∃ N : Nat, n = N := ⟨n.toNat, by omega⟩
        have hbN : N * j.bytes ≤ 140737488355328 := by
          have : ((N * j.bytes : Nat) : Int) ≤ 140737488355328 := by rw [Int.natCast_mul]; exact hbytes
          omega
        have hN : N ≤ 140737488355328 := Nat.le_trans (Nat.le_mul_of_pos_right _ hb0) hbN
        have hrun := run_make (P := P) w t e ti z ht hti hz .i64 .i64 N N h0 (Int.le_refl _) (by rw [htb, Int.mul_comm]; omega) (by omega)
        simp only [Int.toNat_natCast] at hrun
        have hcells : (madeCells z.cells (N * ti.size)).toList = (List.replicate N z.cells.toList).flatten := by
          unfold madeCells
          rw [hts]
          exact cycA z.cells N j.size hzs
        have hnew : (w.alloc (.cells (madeCells z.cells (N * ti.size)) e)).heap[w.heap.size]? = some (.cells (madeCells z.cells (N * ti.size)) e (0, 0)) := heap_alloc_new w _
        obtain ⟨i2, p2⟩ := e4.inv.grown (Grown.alloc w (.cells (madeCells z.cells (N * ti.size)) e) none) (fun g hg => by cases hg)
        refine sim_v hrun (Out.list i2 (R.one e2) (Own.of_els (bss := List.replicate N []) hnew (.inr (Nat.le_refl 0)) (Nat.le_refl N) (Nat.zero_le N) (by rw [size_madeCells, hts, hks]) (by simp) (by simp) (fun q y hy => ?_)) (by simp) (fun b hb => ?_) e2)
        · have hq : q < N := by
            have := (List.getElem?_eq_some_iff.1 hy).1
            simpa using this
          have hy' : y = x := by
            obtain ⟨h1, h2⟩ := List.getElem?_eq_some_iff.1 hy
            rw [← h2]; simp
          subst hy'
          refine ⟨[], by rw [List.getElem?_replicate, if_pos hq], ?_⟩
          rw [hcells]
          have hlen : z.cells.toList.length = k.size := by rw [hks]; simpa using hzs
          have := flat_take z.cells.toList hq
          rw [hlen] at this
          rw [this]
          exact e3.move (fun b hb => by cases hb)
        · simp only [List.flatten_replicate_nil, List.mem_singleton] at hb
          subst hb
          exact .inr ⟨Nat.le_refl _, by simp⟩
      · cases e2
    · cases hr
  · cases hr
end
end Go.TM

/- append, conversions, stores. -/
set_option linter.unusedVariables false
set_option linter.unusedSimpArgs false
namespace Go.TM
open Go
theorem take_drop_take {α : Type} (l : List α) (T a s : Nat) (h : a + s ≤ T) : ((l.take T).drop a).take s = (l.drop a).take s := by
  rw [List.drop_take, List.take_take]
  congr 1
  omega
theorem ro_cells {k : K} {w : World} {rs : List Nat} {xs : List k.T} {A : Option Addr} {n cc : Nat} (h : RO (.list k) w rs xs [.slice A n cc]) : n = xs.length ∧ ∃ news : List Value, news.length = n * k.size ∧ (∀ j (e : k.T), xs[j]? = some e → RO k w rs e ((news.drop (j * k.size)).take k.size)) ∧ ((∃ ad, A = some ad ∧ ∀ q u, news[q]? = some u → w.cell? (ad.add q) = some u) ∨ n = 0) := by
  simp only [RO] at h
  obtain ⟨A', c', e1, e2, e3⟩ := h
  injection e1 with e1
  injection e1 with f1 f2 f3
  subst f1; subst f2
  refine ⟨rfl, ?_⟩
  cases hx : xs with
  | nil => exact ⟨[], by simp, fun j e he => by simp at he, .inr rfl⟩
  | cons x0 xr =>
    obtain ⟨ad, _, hA, _⟩ := e3 0 (by rw [hx]; simp)
    subst hA
    rw [← hx]
    have key : ∀ j (hj : j < xs.length), ∃ el, RO k w rs (xs[j]'hj) el ∧ ∀ q, q < k.size → (w.cell? (ad.add (j * k.size + q))) = el[q]? := by
      intro j hj
      obtain ⟨ad', el, g1, g2, g3, g4⟩ := e3 j hj
      injection g1 with g1
      subst g1
      refine ⟨el, g3, fun q hq => ?_⟩
      have hl := g3.len
      rw [List.getElem?_eq_getElem (by omega)]
      exact g4 q _ (List.getElem?_eq_getElem (by omega))
    refine ⟨(List.range (xs.length * k.size)).map fun q => (w.cell? (ad.add q)).getD Go.undef, by simp, fun j e he => ?_, .inl ⟨ad, rfl, fun q u hq => ?_⟩⟩
    · obtain ⟨hj, rfl⟩ := List.getElem?_eq_some_iff.1 he
      obtain ⟨el, g1, g2⟩ := key j hj
      have hlen := g1.len
      have hjs : j * k.size + k.size ≤ xs.length * k.size := by rw [← Nat.succ_mul]; exact Nat.mul_le_mul_right _ hj
      have : (((List.range (xs.length * k.size)).map fun q => (w.cell? (ad.add q)).getD Go.undef).drop (j * k.size)).take k.size = el := by
        apply List.ext_getElem?
        intro q
        by_cases hq : q < k.size
        · rw [List.getElem?_take, if_pos hq, List.getElem?_drop, List.getElem?_map, List.getElem?_range (by omega)]
          simp only [Option.map_some, g2 q hq]
          rw [List.getElem?_eq_getElem (by omega)]
          rfl
        · rw [List.getElem?_take, if_neg hq, List.getElem?_eq_none (by omega)]
      rw [this]
      exact g1
    · rw [List.getElem?_map, Option.map_eq_some_iff] at hq
      obtain ⟨q', hq', rfl⟩ := hq
      have hlt : q < xs.length * k.size := by
        have := (List.getElem?_eq_some_iff.1 hq').1
        simpa using this
      rw [List.getElem?_range hlt] at hq'
      injection hq' with hq'
      subst hq'
      have hs : 0 < k.size := Nat.pos_of_ne_zero (fun e => by rw [e] at hlt; omega)
      have hj : q / k.size < xs.length := Nat.div_lt_of_lt_mul (by rw [Nat.mul_comm]; exact hlt)
      obtain ⟨el, g1, g2⟩ := key (q / k.size) hj
      have h1 := g2 (q % k.size) (Nat.mod_lt _ hs)
      have h2 : q / k.size * k.size + q % k.size = q := by rw [Nat.mul_comm]; exact Nat.div_add_mod q k.size
      rw [h2, List.getElem?_eq_getElem (by rw [g1.len]; exact Nat.mod_lt _ hs)] at h1
      rw [h1]
      rfl
section
variable {P : Program} {E : Env} {c : Ctx} {h : List (Nat × Root)} {G : Ge} {w : World} {B : Nat → List Nat} {X : Nat → Prop} {sl : Nat → AV} {vs : Nat → Value} {ρ : Type} {K : AV → List (Nat × Root) → Nat → Option ρ} {r : ρ} {nid m : Nat}
theorem append_core (I : Inv c h G w B X sl vs) (R : Room K r G nid m) {t u ty e : Nat} {j : TInfo} (ht : P.underlying t = some (.slice e)) (htj : tdOk P e j) {k : TM.K} (hks : k.size = j.size) (hb0 : 0 < j.bytes) (hu : P.underlying u = some .string ∨ ∃ e', P.underlying u = some (.slice e'))
    {s : AV} {va x : Value} {ys : List k.T} (ha : AVR G w (NN c h B X) s va)
    (hr : (listO s k fun xs => .ite (decide ((xs.length + ys.length) * j.bytes ≤ 140737488355328)) (.new (.list 0 k (xs ++ ys)) fun q => .ret (.own q)) .fail).run nid h K = some r)
    {news : List Value} {bssy : List (List Nat)} (hlen : (Builtin.lenOf x).run P w = .ok ys.length w) (hl : news.length = ys.length * k.size) (hnews : ∀ w' : World, w'.heap = w.heap → (Builtin.firstCells k.size ys.length x).run P w' = .ok news.toArray w') (h1 : ∀ u, u ∈ news → u.oneCell' = true)
    (hby : bssy.length = ys.length) (hys : ∀ q (y : k.T), ys[q]? = some y → ∃ b, bssy[q]? = some b ∧ Own k w b y ((news.drop (q * k.size)).take k.size)) (hnd : bssy.flatten.Nodup) (hX : ∀ b, b ∈ bssy.flatten → X b) :
    OpSim P c K r G nid sl vs (do pure (Next.value (← Builtin.append_ #[t, u] ty #[va, x]))) w := by
  obtain ⟨⟨ti, hti, hts, htb, z, hz, hzc, hz1, hzs, _⟩, _⟩ := htj
  obtain ⟨xs, bs, h', e1, e2, e3⟩ := listO_out I hr ha
  obtain ⟨hb, e1⟩ := ite_run' e1
  simp only [decide_eq_true_eq] at hb
  simp only [HM.run] at e1
  have hsi : k.size = ti.size := by rw [hts, hks]
  have hXlt : ∀ b, X b → b < w.heap.size := fun b hb => (e3.inv.lim b (.inl hb)).1
  -- what the old list is
  have hold : ∃ (base : Option Nat) (cap : Nat) (olds : List Value) (bss : List (List Nat)), va = .slice (base.map fun g => ⟨g, 0, none⟩) xs.length cap ∧ olds.length = xs.length * ti.size ∧
      ((base = none ∧ xs.length = 0 ∧ cap = 0) ∨ ∃ g cur ce fr, base = some g ∧ w.heap[g]? = some (.cells cur ce fr) ∧ Free fr cur.size ∧ xs.length ≤ cap ∧ 0 ≤ cap ∧ cur.size = cap * ti.size ∧ cur.toList.take (xs.length * ti.size) = olds) ∧
      bss.length = xs.length ∧ (∀ q (y : k.T), xs[q]? = some y → ∃ b, bss[q]? = some b ∧ Own k w b y ((olds.drop (q * k.size)).take k.size)) ∧ (∀ b, b ∈ bss.flatten → b ∈ bs ∧ some b ≠ base) ∧ bss.flatten.Nodup ∧ ∀ g, base = some g → g ∈ bs := by
    have hn := e3.nodup
    simp only [Own] at e2
    obtain ⟨v, f1, f2⟩ := e2
    injection f1 with f1
    subst f1
    rcases f2 with ⟨rfl, rfl, rfl⟩ | ⟨g, cap, cur, ce, fr, bss, rfl, g2, g3, g4, g5, g6, g7, g8, g9⟩
    · exact ⟨none, 0, [], [], rfl, by simp, .inl ⟨rfl, rfl, rfl⟩, rfl, fun q y hy => by simp at hy, fun b hb => by simp at hb, List.nodup_nil, fun g hg => by cases hg⟩
    · subst g7
      obtain ⟨hn1, hn2⟩ := List.nodup_cons.1 hn
      refine ⟨some g, cap, cur.toList.take (xs.length * ti.size), bss, rfl, ?_, .inr ⟨g, cur, ce, fr, rfl, g2, g3, g4, g5, by rw [← hsi]; exact g6, rfl⟩, g8, fun q y hy => ?_, fun b hb => ⟨List.mem_cons_of_mem _ hb, fun e => hn1 (by injection e with e; exact e ▸ hb)⟩, hn2, fun g' hg' => by injection hg' with hg'; subst hg'; exact List.mem_cons_self⟩
      · have : xs.length * ti.size ≤ cap * ti.size := Nat.mul_le_mul_right _ g4
        simp only [List.length_take, Array.length_toList, g6, hsi]; omega
      · obtain ⟨hq, rfl⟩ := List.getElem?_eq_some_iff.1 hy
        obtain ⟨b, hb, ho⟩ := g9 q hq
        refine ⟨b, hb, ?_⟩
        rw [← hsi, take_drop_take _ _ _ _ (by rw [← Nat.succ_mul]; exact Nat.mul_le_mul_right _ hq)]
        exact ho
  obtain ⟨base, cap, olds, bss, rfl, hlo, hbase, hbl, hbo, hbm, hbn, hbg⟩ := hold
  obtain ⟨v', w', hrun, hgr, hsh⟩ := run_append_gen (P := P) (w := w) t u ty e ti z ht hu hti hz (by rw [hzs, hts]) x ys.length news (by rw [hl, hsi]) hlen (by rw [← hsi]; exact hnews) h1 base xs.length cap olds hlo hbase (by rw [htb]; exact hb) (by rw [htb]; exact hb0)
  obtain ⟨i2, p2⟩ := e3.inv.grown hgr (fun g hg => .inr (hbg g hg))
  refine sim_v hrun ?_
  rcases hsh with ⟨rfl, h0⟩ | ⟨g', cap', cur', ce', fr', rfl, s2, s3, s4, s5, s6, s7, s8⟩
  · have hxs : xs = [] := List.eq_nil_of_length_eq_zero (by omega)
    have hyy : ys = [] := List.eq_nil_of_length_eq_zero (by omega)
    rw [hxs, hyy] at e1
    exact Out.list i2 (R.one e1) (bs := []) (by simp [Own]) List.nodup_nil (fun b hb => by cases hb) e1
  · have hmove : ∀ b, (X b ∨ b ∈ bss.flatten) → w'.heap[b]? = w.heap[b]? := by
      intro b hb
      refine hgr.block b ?_ ?_
      · rcases hb with hb | hb
        · exact hXlt b hb
        · exact e3.lt b (hbm b hb).1
      · rcases hb with hb | hb
        · intro e
          exact e3.fresh b (hbg b e.symm) hb
        · exact (hbm b hb).2
    have hel : ∀ q (y : k.T), (xs ++ ys)[q]? = some y → ∃ b, (bss ++ bssy)[q]? = some b ∧ Own k w' b y ((cur'.toList.drop (q * k.size)).take k.size) := by
      intro q y hy
      have hq : q < xs.length + ys.length := by
        have := (List.getElem?_eq_some_iff.1 hy).1
        simpa using this
      have hcut : (cur'.toList.drop (q * k.size)).take k.size = ((olds ++ news).drop (q * k.size)).take k.size := by
        rw [← s7, take_drop_take]
        rw [← hsi, ← Nat.succ_mul]
        exact Nat.mul_le_mul_right _ hq
      rw [hcut]
      by_cases hqx : q < xs.length
      · rw [List.getElem?_append_left hqx] at hy
        obtain ⟨b, hb, ho⟩ := hbo q y hy
        refine ⟨b, by rw [List.getElem?_append_left (by omega)]; exact hb, ?_⟩
        have : ((olds ++ news).drop (q * k.size)).take k.size = (olds.drop (q * k.size)).take k.size := by
          have h2 : q * k.size + k.size ≤ olds.length := by rw [hlo, hsi, ← Nat.succ_mul]; exact Nat.mul_le_mul_right _ hqx
          rw [List.drop_append_of_le_length (by omega), List.take_append_of_le_length (by simp only [List.length_drop]; omega)]
        rw [this]
        exact ho.move (fun b' hb' => hmove b' (.inr (List.mem_flatten.2 ⟨b, List.mem_of_getElem? hb, hb'⟩)))
      · rw [List.getElem?_append_right (by omega)] at hy
        obtain ⟨b, hb, ho⟩ := hys _ y hy
        refine ⟨b, by rw [List.getElem?_append_right (by omega), hbl]; exact hb, ?_⟩
        have : (olds ++ news).drop (q * k.size) = news.drop ((q - xs.length) * k.size) := by
          have h2 : q * k.size = olds.length + (q - xs.length) * k.size := by
            rw [hlo, ← hsi, ← Nat.add_mul]; congr 1; omega
          rw [h2, ← List.drop_drop, List.drop_left]
        rw [this]
        exact ho.move (fun b' hb' => hmove b' (.inl (hX b' (List.mem_flatten.2 ⟨b, List.mem_of_getElem? hb, hb'⟩))))
    have hnd2 : (g' :: (bss ++ bssy).flatten).Nodup := by
      rw [List.flatten_append, List.nodup_cons]
      refine ⟨fun hm => ?_, ?_⟩
      · rcases List.mem_append.1 hm with hm | hm
        · rcases s8 with s8 | s8
          · exact (hbm g' hm).2 s8.symm
          · have := e3.lt g' (hbm g' hm).1; omega
        · rcases s8 with s8 | s8
          · exact e3.fresh g' (hbg g' s8) (hX g' hm)
          · have := hXlt g' (hX g' hm); omega
      · rw [List.nodup_append]
        exact ⟨hbn, hnd, fun a ha b hb e => e3.fresh a (hbm a ha).1 (e ▸ hX b hb)⟩
    refine Out.list i2 (R.one e1) (Own.of_els (bss := bss ++ bssy) s2 s3 s4 s5 (by rw [hsi]; exact s6) (by simp) (by simp [hbl, hby]) hel) hnd2 (fun b hb => ?_) e1
    rcases List.mem_cons.1 hb with rfl | hb
    · rcases s8 with s8 | s8
      · exact .inl (.inr (hbg _ s8))
      · exact .inr ⟨by omega, lt_of_some s2⟩
    · rw [List.flatten_append] at hb
      rcases List.mem_append.1 hb with hb | hb
      · exact .inl (.inr (hbm b hb).1)
      · exact .inl (.inl (hX b hb))
theorem firstCells_at {w w' : World} (hh : w'.heap = w.heap) {size n : Nat} {A : Option Addr} {cc : Nat} {news : List Value} (hl : news.length = n * size) (hA : (∃ ad, A = some ad ∧ ∀ q u, news[q]? = some u → w.cell? (ad.add q) = some u) ∨ n = 0) : (Builtin.firstCells size n (.slice A n cc)).run P w' = .ok news.toArray w' := by
  have hcell : ∀ a, w'.cell? a = w.cell? a := fun a => by simp [World.cell?, hh]
  cases A with
  | none =>
    rcases hA with ⟨ad, hA, _⟩ | hA
    · cases hA
    · subst hA
      have : news = [] := List.eq_nil_of_length_eq_zero (by simpa using hl)
      subst this
      exact run_firstCells_none (P := P) w' size 0 0 cc
  | some ad =>
    refine run_firstCells_some (P := P) w' size n ad n cc news hl (fun j v hj => ?_)
    rcases hA with ⟨ad', hA, h1⟩ | hA
    · injection hA with hA
      subst hA
      rw [hcell]
      exact h1 j v hj
    · subst hA
      have : news = [] := List.eq_nil_of_length_eq_zero (by simpa using hl)
      subst this
      simp at hj
theorem append_str (I : Inv c h G w B X sl vs) (R : Room K r G nid m) {t u ty e : Nat} {j : TInfo} (ht : P.underlying t = some (.slice e)) (htj : tdOk P e j) (hks : (TM.K.int .u8).size = j.size) (hb0 : 0 < j.bytes) (hu : P.underlying u = some .string) {s : AV} {va : Value} {y : ByteArray} (ha : AVR G w (NN c h B X) s va)
    (hr : (listO s (.int .u8) fun xs => .ite (decide ((xs.length + (toBytes y).length) * j.bytes ≤ 140737488355328)) (.new (.list 0 (.int .u8) (xs ++ toBytes y)) fun q => .ret (.own q)) .fail).run nid h K = some r) :
    OpSim P c K r G nid sl vs (do pure (Next.value (← Builtin.append_ #[t, u] ty #[va, .string y]))) w := by
  have hone : ∀ (l : List UInt8) (q : Nat) (yy : Int), (l.map fun b => (b.toNat : Int))[q]? = some yy → ∃ b, (List.replicate l.length ([] : List Nat))[q]? = some b ∧ Own (.int .u8) w b yy (((l.map fun b => Value.int .u8 (b.toNat : Int)).drop (q * 1)).take 1) := by
    intro l q yy hy
    rw [List.getElem?_map, Option.map_eq_some_iff] at hy
    obtain ⟨b, hb, rfl⟩ := hy
    obtain ⟨hq, rfl⟩ := List.getElem?_eq_some_iff.1 hb
    refine ⟨[], by rw [List.getElem?_replicate, if_pos hq], ?_⟩
    simp only [Own]
    refine ⟨trivial, ?_⟩
    rw [Nat.mul_one, List.take_one, List.head?_drop, List.getElem?_map, hb]
    rfl
  have hn : (toBytes y).length = y.size := by rw [toBytes, List.length_map, Array.length_toList]; rfl
  refine append_core I R ht htj hks hb0 (.inl hu) ha hr (news := y.data.toList.map fun b => Value.int .u8 (b.toNat : Int)) (bssy := List.replicate y.data.toList.length []) ?_ ?_ ?_ ?_ ?_ (by exact hone y.data.toList) (by simp) (by simp)
  · simp [Builtin.lenOf, hn]
  · rw [hn, List.length_map, Array.length_toList]; exact (Nat.mul_one _).symm
  · intro w' _
    simp only [Builtin.firstCells, Sem.run_pure, hn]
    have hex : (y.extract 0 y.size) = y := ByteArray.extract_zero_size
    rw [hex]
    congr 1
    apply Array.ext'
    simp
  · intro v hv
    obtain ⟨b, _, rfl⟩ := List.mem_map.1 hv
    rfl
  · rw [hn, List.length_replicate, Array.length_toList]; rfl
theorem append_sim (I : Inv c h G w B Emp sl vs) (hE : TabOk P E) (R : Room K r G nid m) {t u ty : Nat} {s x : AV} {va vx : Value} (hr : (semAppend E t u s x).run nid h K = some r) (ha : AVR G w (NN c h B Emp) s va) (hx : AVR G w (NN c h B Emp) x vx) : OpSim P c K r G nid sl vs (do pure (Next.value (← Builtin.append_ #[t, u] ty #[va, vx]))) w := by
  unfold semAppend at hr
  split at hr
  · rename_i e j hj
    obtain ⟨ht, htj⟩ := slElem_ok hE hj
    split at hr
    · rename_i k hk
      simp only at hr
      obtain ⟨hc, hr⟩ := bif_run hr
      simp only [Bool.and_eq_true, Nat.blt_eq] at hc
      have hks := Nat.eq_of_beq_eq_true hc.1
      split at hr
      · rename_i y
        simp only [AVR] at hx
        subst hx
        split at hr
        · rename_i i hi
          have hti := (hE u i hi).2
          split at hr
          · rename_i _ hd
            rw [hd] at hti
            exact append_str I R ht htj hks hc.2 hti.1 ha hr
          · cases hr
        · cases hr
      · rename_i hns
        obtain ⟨htu, hr2⟩ := bif_run hr
        clear hr
        have htu := Nat.eq_of_beq_eq_true htu
        subst htu
        cases hfl : k.flat with
        | true =>
          rw [hfl] at hr2
          simp only [cond_true] at hr2
          obtain ⟨hna, hr⟩ := bif_run hr2
          obtain ⟨ys, rs, e1, e2, e3⟩ := listR_out I hr hx
          have hv : ∃ A cc, vx = .slice A ys.length cc := by
            simp only [RO] at e2
            obtain ⟨A, cc, f1, _⟩ := e2
            injection f1 with f1
            exact ⟨A, cc, f1⟩
          obtain ⟨A, cc, rfl⟩ := hv
          obtain ⟨_, news, g1, g2, g3⟩ := ro_cells e2
          have hel : ∀ q (yy : k.T), ys[q]? = some yy → ∃ b, (List.replicate ys.length ([] : List Nat))[q]? = some b ∧ Own k w b yy ((news.drop (q * k.size)).take k.size) := fun q yy hy =>
            ⟨[], by rw [List.getElem?_replicate, if_pos (List.getElem?_eq_some_iff.1 hy).1], ro_own hfl hna (g2 q yy hy)⟩
          refine append_core I R ht htj hks hc.2 (.inr ⟨_, ht⟩) ha e1 (news := news) (bssy := List.replicate ys.length []) (by simp [Builtin.lenOf]) g1 (fun w' hw' => firstCells_at hw' g1 g3) ?_ (by simp) hel (by simp) (by simp)
          intro v hv
          obtain ⟨q, hq, rfl⟩ := List.mem_iff_getElem.1 hv
          have hs : 0 < k.size := by rw [g1] at hq; exact Nat.pos_of_ne_zero (fun e => by rw [e] at hq; omega)
          have hjq : q / k.size < ys.length := Nat.div_lt_of_lt_mul (by rw [Nat.mul_comm, ← g1]; exact hq)
          obtain ⟨b, _, ho⟩ := hel (q / k.size) _ (List.getElem?_eq_getElem hjq)
          refine ho.one _ (List.mem_iff_getElem?.2 ⟨q % k.size, ?_⟩)
          rw [List.getElem?_take, if_pos (Nat.mod_lt _ hs), List.getElem?_drop]
          have h2 : q / k.size * k.size + q % k.size = q := by rw [Nat.mul_comm]; exact Nat.div_add_mod q k.size
          rw [h2, List.getElem?_eq_getElem hq]
        | false =>
          rw [hfl] at hr2
          simp only [cond_false] at hr2
          obtain ⟨ys, bs, h', e1, e2, e3⟩ := listO_out I hr2 hx
          have ha' := e3.avr ha
          have hn := e3.nodup
          simp only [Own] at e2
          obtain ⟨v, f1, f2⟩ := e2
          injection f1 with f1
          subst f1
          rcases f2 with ⟨rfl, rfl, rfl⟩ | ⟨g, cap, cur, ce, fr, bss, rfl, g2, g3, g4, g5, g6, g7, g8, g9⟩
          · exact append_core e3.inv R ht htj hks hc.2 (.inr ⟨_, ht⟩) ha' e1 (news := []) (bssy := []) (by simp [Builtin.lenOf]) (by simp) (fun w' hw' => firstCells_at hw' (by simp) (.inr rfl)) (fun v hv => by cases hv) rfl (fun q y hy => by simp at hy) (by simp) (by simp)
          · subst g7
            obtain ⟨hn1, hn2⟩ := List.nodup_cons.1 hn
            have hle : ys.length * k.size ≤ cap * k.size := Nat.mul_le_mul_right _ g4
            have hel : ∀ q (yy : k.T), ys[q]? = some yy → ∃ b, bss[q]? = some b ∧ Own k w b yy (((cur.toList.take (ys.length * k.size)).drop (q * k.size)).take k.size) := by
              intro q yy hy
              obtain ⟨hq, rfl⟩ := List.getElem?_eq_some_iff.1 hy
              obtain ⟨b, hb, ho⟩ := g9 q hq
              refine ⟨b, hb, ?_⟩
              rw [take_drop_take _ _ _ _ (by rw [← Nat.succ_mul]; exact Nat.mul_le_mul_right _ hq)]
              exact ho
            refine append_core e3.inv R ht htj hks hc.2 (.inr ⟨_, ht⟩) ha' e1 (news := cur.toList.take (ys.length * k.size)) (bssy := bss) (by simp [Builtin.lenOf]) (by simp only [List.length_take, Array.length_toList]; omega) (fun w' hw' => firstCells_at hw' (by simp only [List.length_take, Array.length_toList]; omega) (.inl ⟨_, rfl, fun q u hq => ?_⟩)) ?_ g8 hel hn2 (fun b hb => .inr (List.mem_cons_of_mem _ hb))
            · rw [add_plain]
              have hq' : cur.toList[q]? = some u := by
                rw [List.getElem?_take] at hq
                split at hq
                · exact hq
                · cases hq
              simp only [World.cell?, g2]
              simpa using hq'
            · intro v hv
              obtain ⟨q, hq, rfl⟩ := List.mem_iff_getElem.1 hv
              have hq2 : q < ys.length * k.size := by simp only [List.length_take] at hq; omega
              have hs : 0 < k.size := Nat.pos_of_ne_zero (fun e => by rw [e] at hq2; omega)
              have hjq : q / k.size < ys.length := Nat.div_lt_of_lt_mul (by rw [Nat.mul_comm]; exact hq2)
              obtain ⟨b, _, ho⟩ := hel (q / k.size) _ (List.getElem?_eq_getElem hjq)
              refine ho.one _ (List.mem_iff_getElem?.2 ⟨q % k.size, ?_⟩)
              rw [List.getElem?_take, if_pos (Nat.mod_lt _ hs), List.getElem?_drop]
              have h2 : q / k.size * k.size + q % k.size = q := by rw [Nat.mul_comm]; exact Nat.div_add_mod q k.size
              rw [h2, List.getElem?_eq_getElem hq]
    · cases hr
  · cases hr
theorem foldl_push (ns : List Int) : ∀ r : ByteArray, ns.foldl (fun r n => r.push (UInt8.ofNat n.toNat)) r = ⟨r.data ++ (ns.map fun x => UInt8.ofNat x.toNat).toArray⟩ := by
  induction ns with
  | nil => intro r; simp
  | cons n ns ih =>
    intro r
    rw [List.foldl_cons, ih]
    simp [ByteArray.push]
theorem run_bytesOf {w : World} {rs : List Nat} {xs : List Int} {A : Option Addr} {n cc : Nat} (h : RO (.list (.int .u8)) w rs xs [.slice A n cc]) : (Conv.bytesToString (.slice A n cc)).run P w = .ok (.string (ofBytes xs)) w := by
  obtain ⟨hn, news, g1, g2, g3⟩ := ro_cells h
  have hnews : news = xs.map (Value.int .u8) := by
    apply List.ext_getElem?
    intro q
    by_cases hq : q < xs.length
    · have := g2 q _ (List.getElem?_eq_getElem hq)
      simp only [RO, TM.K.size, Nat.mul_one, List.take_one, List.head?_drop] at this
      rw [List.getElem?_map, List.getElem?_eq_getElem hq]
      cases hc : news[q]? with
      | none => rw [hc] at this; simp at this
      | some v => rw [hc] at this; simpa using this
    · rw [List.getElem?_eq_none (by rw [g1, hn]; simpa [TM.K.size] using hq), List.getElem?_eq_none (by simpa using hq)]
  subst hnews
  cases A with
  | none =>
    rcases g3 with ⟨ad, h1, _⟩ | h1
    · cases h1
    · have : xs = [] := List.eq_nil_of_length_eq_zero (by omega)
      subst this
      rfl
  | some ad =>
    have hload : (loadCells ad n).run P w = .ok (xs.map (Value.int .u8)).toArray w := by
      rcases g3 with ⟨ad', h1, h2⟩ | h1
      · injection h1 with h1
        subst h1
        have := run_loadCells_list (P := P) w ad _ h2
        rw [List.length_map, ← hn] at this
        exact this
      · have : xs = [] := List.eq_nil_of_length_eq_zero (by omega)
        subst this
        subst h1
        exact run_loadCells_list (P := P) w ad [] (fun j v hj => by simp at hj)
    rw [run_bytesToString (P := P) w ad n cc xs hload, foldl_push]
    simp [ofBytes]
theorem bytesRow_size (s : ByteArray) (w : World) (e : TypeId) : (bytesRow s (grownCap w s.size 0 e)).size = grownCap w s.size 0 e := by
  have hge := grownCap_ge w s.size 0 e
  simp only [bytesRow, Array.size_append, Array.size_map, Array.size_replicate]
  have : s.data.size = s.size := rfl
  omega
theorem convert_sim (I : Inv c h G w B Emp sl vs) (hE : TabOk P E) (R : Room K r G nid m) {t u : Nat} {x : AV} {vx : Value} (hr : (semConvert E t u x).run nid h K = some r) (hx : AVR G w (NN c h B Emp) x vx) : OpSim P c K r G nid sl vs (do pure (Next.value (← convert t u vx))) w := by
  unfold semConvert at hr
  split at hr
  · rename_i i j hi hj
    have hti := (hE t i hi).2
    have htj := (hE u j hj).2
    split at hr
    · rename_i k0 k k1 n hd1 hd2
      rw [hd1] at hti
      rw [hd2] at htj
      simp only [AVR] at hx
      subst hx
      exact Still.sim I ⟨.int k (k.wrap n), _, by simp [convert, run_underlying hti.1, run_underlying htj.1, Conv.intToInt], hr, by simp only [AVR]⟩
    · rename_i s hd1 hd2
      rw [hd1] at hti
      rw [hd2] at htj
      simp only [AVR] at hx
      subst hx
      exact Still.sim I ⟨.string s, _, by simp [convert, run_underlying hti.1, run_underlying htj.1], hr, by simp only [AVR]⟩
    · rename_i e s hd1 hd2
      rw [hd1] at hti
      rw [hd2] at htj
      simp only [AVR] at hx
      subst hx
      split at hr
      · rename_i q hq
        have htq := (hE e q hq).2
        split at hr
        · rename_i hd3
          rw [hd3] at htq
          simp only [HM.run] at hr
          have hrun := run_bytes_of_string (P := P) w t u e s hti.1 htj.1 htq.1
          have hnew := heap_alloc_new w.drew (.cells (bytesRow s (grownCap w s.size 0 e)) e ((bytesRow s (grownCap w s.size 0 e)).size, (bytesRow s (grownCap w s.size 0 e)).size + 1))
          obtain ⟨i2, p2⟩ := I.grown (Grown.alloc' w (.cells (bytesRow s (grownCap w s.size 0 e)) e ((bytesRow s (grownCap w s.size 0 e)).size, (bytesRow s (grownCap w s.size 0 e)).size + 1)) none) (fun g hg => by cases hg)
          have hn : (toBytes s).length = s.size := by rw [toBytes, List.length_map, Array.length_toList]; rfl
          refine sim_v hrun (Out.list i2 (R.one hr) (Own.of_els (k := .int .u8) (bss := List.replicate s.size []) hnew (.inl (Nat.le_refl _)) (grownCap_ge w s.size 0 e) (Nat.zero_le _) (by rw [bytesRow_size]; exact (Nat.mul_one _).symm) hn (by simp) (fun q y hy => ?_)) (by simp) (fun b hb => ?_) hr)
          · simp only [toBytes, List.getElem?_map, Option.map_eq_some_iff] at hy
            obtain ⟨b, hb, rfl⟩ := hy
            obtain ⟨hq, rfl⟩ := List.getElem?_eq_some_iff.1 hb
            rw [Array.length_toList] at hq
            refine ⟨[], by rw [List.getElem?_replicate, if_pos (show q < s.size from hq)], ?_⟩
            simp only [Own]
            refine ⟨trivial, ?_⟩
            have := bytesRow_at s (grownCap w s.size 0 e) q hq
            simp only [TM.K.size, Nat.mul_one, List.take_one, List.head?_drop, Array.getElem?_toList, this]
            simp
          · simp only [List.flatten_replicate_nil, List.mem_singleton] at hb
            subst hb
            exact .inr ⟨Nat.le_refl _, by simp⟩
        · cases hr
      · cases hr
    · rename_i e hd1 hd2
      rw [hd1] at hti
      rw [hd2] at htj
      split at hr
      · rename_i q hq
        have htq := (hE e q hq).2
        split at hr
        · rename_i hd3
          rw [hd3] at htq
          obtain ⟨xs, rs, e1, e2, e3⟩ := listR_out I hr hx
          have hv : ∃ A cc, vx = .slice A xs.length cc := by
            simp only [RO] at e2
            obtain ⟨A, cc, f1, _⟩ := e2
            injection f1 with f1
            exact ⟨A, cc, f1⟩
          obtain ⟨A, cc, rfl⟩ := hv
          refine Still.sim I ⟨.string (ofBytes xs), _, ?_, e1, by simp only [AVR]⟩
          rw [run_convert_bytes_string (P := P) w t u e A xs.length cc hti.1 htq.1 htj.1]
          exact run_bytesOf e2
        · cases hr
      · cases hr
    · cases hr
  · cases hr
end
end Go.TM

/- Stores. -/
set_option linter.unusedVariables false
set_option linter.unusedSimpArgs false
namespace Go.TM
open Go
section
variable {G : Ge} {w : World} {N : Nat → Prop}
theorem setCell_notL : ∀ {k : K} {x : k.T} {off : Nat} {v : AV} {y : k.T}, setCell k x off v = some y → isL k off = false
  | .int _, _, _, _, _, _ => rfl
  | .bool, _, _, _, _, _ => rfl
  | .str, _, _, _, _, _ => rfl
  | .list _, _, _, _, _, h => by simp [setCell] at h
  | .arr _ _, _, _, _, _, h => by simp [setCell] at h
  | .pair a b, x, off, v, y, h => by
    simp only [setCell] at h
    simp only [isL]
    cases hb : Nat.blt off a.size with
    | true =>
      rw [hb] at h
      simp only [cond_true] at h ⊢
      split at h
      · rename_i hy; exact setCell_notL hy
      · cases h
    | false =>
      rw [hb] at h
      simp only [cond_false] at h ⊢
      split at h
      · rename_i hy; exact setCell_notL hy
      · cases h
theorem blt_false {a b : Nat} (h : Nat.blt a b = false) : b ≤ a := by
  rcases Nat.lt_or_ge a b with hlt | hge
  · rw [show Nat.blt a b = true from by rw [Nat.blt_eq]; exact hlt] at h; cases h
  · exact hge
theorem setCell_own : ∀ {k : K} {x : k.T} {off : Nat} {v : AV} {y : k.T} {b : List Nat} {cs : List Value} {u : Value}, setCell k x off v = some y → Own k w b x cs → AVR G w N v u → Own k w b y (cs.set off u) ∧ off < cs.length ∧ u.oneCell' = true
  | .int k, x, off, v, y, b, cs, u, h, ho, hv => by
    cases off with
    | succ _ => simp [setCell] at h
    | zero =>
      cases v with
      | int k' z =>
        simp only [setCell] at h
        by_cases hk : k = k'
        · subst hk
          simp only [decide_true, cond_true, Option.some.injEq] at h
          subst h
          simp only [Own] at ho ⊢
          simp only [AVR] at hv
          subst hv
          rw [ho.2]
          exact ⟨⟨ho.1, rfl⟩, by simp, rfl⟩
        · simp [hk] at h
      | _ => simp [setCell] at h
  | .bool, x, off, v, y, b, cs, u, h, ho, hv => by
    cases off with
    | succ _ => simp [setCell] at h
    | zero =>
      cases v with
      | bool z =>
        simp only [setCell, Option.some.injEq] at h
        subst h
        simp only [Own] at ho ⊢
        simp only [AVR] at hv
        subst hv
        rw [ho.2]
        exact ⟨⟨ho.1, rfl⟩, by simp, rfl⟩
      | _ => simp [setCell] at h
  | .str, x, off, v, y, b, cs, u, h, ho, hv => by
    cases off with
    | succ _ => simp [setCell] at h
    | zero =>
      cases v with
      | str z =>
        simp only [setCell, Option.some.injEq] at h
        subst h
        simp only [Own] at ho ⊢
        simp only [AVR] at hv
        subst hv
        rw [ho.2]
        exact ⟨⟨ho.1, rfl⟩, by simp, rfl⟩
      | _ => simp [setCell] at h
  | .list _, _, _, _, _, _, _, _, h, _, _ => by simp [setCell] at h
  | .arr _ _, _, _, _, _, _, _, _, h, _, _ => by simp [setCell] at h
  | .pair a b', x, off, v, y, b, cs, u, h, ho, hv => by
    simp only [setCell] at h
    simp only [Own] at ho
    obtain ⟨b1, b2, c1, c2, rfl, rfl, h1, h2⟩ := ho
    have hl := h1.len
    cases hb : Nat.blt off a.size with
    | true =>
      rw [hb] at h
      simp only [cond_true] at h
      rw [Nat.blt_eq] at hb
      split at h
      · rename_i z hz
        injection h with h
        subst h
        obtain ⟨r1, r2, r3⟩ := setCell_own hz h1 hv
        simp only [Own]
        exact ⟨⟨b1, b2, c1.set off u, c2, rfl, by rw [List.set_append_left _ _ r2], r1, h2⟩, by simp only [List.length_append]; omega, r3⟩
      · cases h
    | false =>
      rw [hb] at h
      simp only [cond_false] at h
      have hge := blt_false hb
      split at h
      · rename_i z hz
        injection h with h
        subst h
        obtain ⟨r1, r2, r3⟩ := setCell_own hz h2 hv
        simp only [Own]
        exact ⟨⟨b1, b2, c1, c2.set (off - a.size) u, rfl, by rw [List.set_append_right _ _ (by omega), hl], h1, r1⟩, by simp only [List.length_append]; omega, r3⟩
      · cases h
theorem set_setRange {α : Type} (l : List α) (off : Nat) (v : α) (vs : List α) (h : off < l.length) : (l.set off v).take (off + 1) ++ vs ++ (l.set off v).drop (off + 1 + vs.length) = l.take off ++ (v :: vs) ++ l.drop (off + (v :: vs).length) := set_list l off v vs h
theorem setCells_own {k : K} {b : List Nat} : ∀ {avs : List AV} {us : List Value} {x y : k.T} {off : Nat} {cs : List Value}, setCells k x off avs = some y → Own k w b x cs → AVRs G w N avs us → Own k w b y (cs.take off ++ us ++ cs.drop (off + us.length)) ∧ (us ≠ [] → off + us.length ≤ cs.length) ∧ ∀ o, isL k o = true → o < off ∨ off + us.length ≤ o
  | [], [], x, y, off, cs, h, ho, _ => by
    simp only [setCells, Option.some.injEq] at h
    subst h
    refine ⟨by simpa using ho, fun h => absurd rfl h, fun o _ => ?_⟩
    simp only [List.length_nil]
    omega
  | v :: avs, u :: us, x, y, off, cs, h, ho, ha => by
    simp only [setCells] at h
    simp only [AVRs] at ha
    split at h
    · rename_i z hz
      obtain ⟨r1, r2, r3⟩ := setCell_own hz ho ha.1
      obtain ⟨s1, s2, s3⟩ := setCells_own h r1 ha.2
      rw [set_list _ _ _ _ r2] at s1
      refine ⟨s1, fun _ => ?_, fun o ho => ?_⟩
      · cases us with
        | nil => simp only [List.length_cons, List.length_nil]; omega
        | cons u' us' => have := s2 (by simp); simp only [List.length_set, List.length_cons] at this ⊢; omega
      · rcases s3 o ho with h4 | h4
        · rcases Nat.lt_or_ge o off with h5 | h5
          · exact .inl h5
          · have : o = off := by omega
            subst this
            rw [setCell_notL hz] at ho
            cases ho
        · right; simp only [List.length_cons]; omega
    · cases h
  | [], _ :: _, _, _, _, _, _, _, ha => by simp only [AVRs] at ha
  | _ :: _, [], _, _, _, _, _, _, ha => by simp only [AVRs] at ha
theorem els_set {cur cs' : List Value} {s i j : Nat} (hl : cs'.length = s) (hfit : i * s + s ≤ cur.length) : ((cur.take (i * s) ++ cs' ++ cur.drop (i * s + s)).drop (j * s)).take s = if j = i then cs' else (cur.drop (j * s)).take s := by
  by_cases hij : j = i
  · subst hij
    rw [if_pos rfl]
    have ht : (cur.take (j * s)).length = j * s := by simp only [List.length_take]; omega
    rw [List.append_assoc, List.drop_append_of_le_length (by omega), List.drop_of_length_le (by omega), List.nil_append, ← hl, List.take_left]
  · rw [if_neg hij]
    apply List.ext_getElem?
    intro q
    by_cases hq : q < s
    · rw [List.getElem?_take, if_pos hq, List.getElem?_take, if_pos hq, List.getElem?_drop, List.getElem?_drop]
      rcases Nat.lt_or_gt_of_ne hij with hlt | hgt
      · have h3 : j * s + q < i * s := by
          have : (j + 1) * s ≤ i * s := Nat.mul_le_mul_right _ hlt
          rw [Nat.succ_mul] at this; omega
        rw [List.append_assoc, List.getElem?_append_left (by simp only [List.length_take]; omega), List.getElem?_take, if_pos h3]
      · have h3 : i * s + s ≤ j * s := by
          have : (i + 1) * s ≤ j * s := Nat.mul_le_mul_right _ hgt
          rw [Nat.succ_mul] at this; omega
        have ht : (cur.take (i * s) ++ cs').length = i * s + s := by simp only [List.length_append, List.length_take]; omega
        rw [List.getElem?_append_right (by rw [ht]; omega), ht, List.getElem?_drop]
        congr 1
        omega
    · rw [List.getElem?_take, if_neg hq, List.getElem?_take, if_neg hq]
theorem cells_in {cur us : List Value} {a s off : Nat} (h1 : a + s ≤ cur.length) (h2 : off + us.length ≤ s) : cur.take (a + off) ++ us ++ cur.drop (a + off + us.length) = cur.take a ++ (((cur.drop a).take s).take off ++ us ++ ((cur.drop a).take s).drop (off + us.length)) ++ cur.drop (a + s) := by
  have e1 : cur.take (a + off) = cur.take a ++ ((cur.drop a).take s).take off := by
    rw [List.take_take, show min off s = off by omega, List.take_add]
  have e2 : cur.drop (a + off + us.length) = ((cur.drop a).take s).drop (off + us.length) ++ cur.drop (a + s) := by
    rw [List.drop_take, List.drop_drop, ← List.take_append_drop (s - (off + us.length)) (cur.drop (a + off + us.length)), List.drop_drop]
    rw [show a + (off + us.length) = a + off + us.length by omega]
    congr 2
    omega
  rw [e1, e2]
  simp only [List.append_assoc]
theorem own_set {k : K} {bs : List Nat} {xs : List k.T} {v : Value} (h : Own (.list k) w bs xs [v]) (hn : bs.Nodup) {i : Nat} {e : k.T} (he : xs[i]? = some e) :
    ∃ g cur ty fr b, blockOf v = some g ∧ g ∈ bs ∧ w.heap[g]? = some (.cells cur ty fr) ∧ Free fr cur.size ∧ i * k.size + k.size ≤ cur.size ∧ Own k w b e ((cur.toList.drop (i * k.size)).take k.size) ∧ (∀ q, q ∈ b → q ∈ bs ∧ q ≠ g) ∧
      ∀ (w' : World) (e' : k.T) (cs' : List Value), OnlyBlock w w' g → Own k w b e' cs' → w'.heap[g]? = some (.cells (cur.toList.take (i * k.size) ++ cs' ++ cur.toList.drop (i * k.size + k.size)).toArray ty fr) → Own (.list k) w' bs (xs.set i e') [v] := by
  simp only [Own] at h
  obtain ⟨v', h1, h2⟩ := h
  injection h1 with h1
  subst h1
  obtain ⟨hi, rfl⟩ := List.getElem?_eq_some_iff.1 he
  rcases h2 with ⟨rfl, rfl, _⟩ | ⟨g, cap, cur, ty, fr, bss, rfl, e2, e3, e4, e5, e6, e7, e8, e9⟩
  · simp at hi
  · obtain ⟨b, hb, ho⟩ := e9 i hi
    subst e7
    obtain ⟨hn1, hn2⟩ := List.nodup_cons.1 hn
    have hmem : ∀ (q : Nat) (l : List Nat), l ∈ bss → q ∈ l → q ∈ g :: bss.flatten ∧ q ≠ g := fun q l hl hq => by
      have : q ∈ bss.flatten := List.mem_flatten.2 ⟨l, hl, hq⟩
      exact ⟨List.mem_cons_of_mem _ this, fun e => hn1 (e ▸ this)⟩
    have hfit : i * k.size + k.size ≤ cur.size := by
      rw [e6, ← Nat.succ_mul]; exact Nat.mul_le_mul_right _ (by omega)
    refine ⟨g, cur, ty, fr, b, rfl, List.mem_cons_self, e2, e3, hfit, ho, fun q hq => hmem q b (List.mem_of_getElem? hb) hq, fun w' e' cs' hw hoe hg' => ?_⟩
    have hlen : cs'.length = k.size := hoe.len
    have hsz : (cur.toList.take (i * k.size) ++ cs' ++ cur.toList.drop (i * k.size + k.size)).length = cur.size := by
      simp only [List.length_append, List.length_take, List.length_drop, Array.length_toList]; omega
    simp only [Own]
    refine ⟨_, rfl, .inr ⟨g, cap, _, ty, fr, bss, by rw [List.length_set], hg', by rw [List.size_toArray, hsz]; exact e3, by rw [List.length_set]; exact e4, e5, by rw [List.size_toArray, hsz]; exact e6, rfl, by rw [List.length_set]; exact e8, fun j hj => ?_⟩⟩
    rw [List.length_set] at hj
    obtain ⟨bj, hbj, hoj⟩ := e9 j hj
    have hmv : ∀ (l : List Nat), l ∈ bss → ∀ q, q ∈ l → w'.heap[q]? = w.heap[q]? := fun l hl q hq => hw.block q (hmem q l hl hq).2
    by_cases hij : j = i
    · subst hij
      rw [hb] at hbj
      injection hbj with hbj
      subst hbj
      refine ⟨b, hb, ?_⟩
      rw [List.getElem_set_self]
      have : (((cur.toList.take (j * k.size) ++ cs' ++ cur.toList.drop (j * k.size + k.size)).toArray.toList.drop (j * k.size)).take k.size) = cs' := by
        have ht : (cur.toList.take (j * k.size)).length = j * k.size := by simp only [List.length_take, Array.length_toList]; omega
        simp only [List.append_assoc]
        conv => lhs; rw [← ht]
        rw [ht]
        rw [List.drop_append_of_le_length (by omega), List.drop_of_length_le (by omega), List.nil_append, ← hlen, List.take_left]
      rw [this]
      exact hoe.move (hmv b (List.mem_of_getElem? hb))
    · refine ⟨bj, hbj, ?_⟩
      rw [List.getElem_set_ne (fun e => hij e.symm)]
      have : (((cur.toList.take (i * k.size) ++ cs' ++ cur.toList.drop (i * k.size + k.size)).toArray.toList.drop (j * k.size)).take k.size) = ((cur.toList.drop (j * k.size)).take k.size) := by
        apply List.ext_getElem?
        intro q
        by_cases hq : q < k.size
        · rw [List.getElem?_take, if_pos hq, List.getElem?_take, if_pos hq, List.getElem?_drop, List.getElem?_drop]
          simp only []
          rcases Nat.lt_or_gt_of_ne hij with hlt | hgt
          · have h3 : j * k.size + q < i * k.size := by
              have : (j + 1) * k.size ≤ i * k.size := Nat.mul_le_mul_right _ hlt
              rw [Nat.succ_mul] at this; omega
            rw [List.append_assoc, List.getElem?_append_left (by simp only [List.length_take, Array.length_toList]; omega), List.getElem?_take, if_pos h3]
          · have h3 : i * k.size + k.size ≤ j * k.size := by
              have : (i + 1) * k.size ≤ j * k.size := Nat.mul_le_mul_right _ hgt
              rw [Nat.succ_mul] at this; omega
            have ht : (cur.toList.take (i * k.size) ++ cs').length = i * k.size + k.size := by simp only [List.length_append, List.length_take, Array.length_toList]; omega
            rw [List.getElem?_append_right (by rw [ht]; omega), ht, List.getElem?_drop]
            congr 1
            omega
        · rw [List.getElem?_take, if_neg hq, List.getElem?_take, if_neg hq]
      rw [this]
      exact hoj.move (hmv bj (List.mem_of_getElem? hbj))
end
section
variable {P : Program} {E : Env} {c : Ctx} {h : List (Nat × Root)} {G : Ge} {w : World} {B : Nat → List Nat} {X : Nat → Prop} {sl : Nat → AV} {vs : Nat → Value} {ρ : Type} {K : AV → List (Nat × Root) → Nat → Option ρ} {r : ρ} {nid m : Nat}
theorem Inv.put (I : Inv c h G w B X sl vs) {j : Nat} {root root' : Root} (hj : look h j = some root) {w' : World} {g : Nat} (hg : g ∈ B j) (hw : OnlyBlock w w' g)
    (hr : ∀ N, (∀ b, N b ↔ NN c h B X b) → Pres G w N G w' N → RootR G w' N (B j) j root') :
    ∃ B', Inv c (put h j root') G w' B' X sl vs ∧ Pres G w (NN c h B X) G w' (NN c (put h j root') B' X) := by
  obtain ⟨i1, p1⟩ := I.del j hj
  obtain ⟨i2, p2⟩ := i1.grown hw.grown (fun g' hg' => by injection hg' with hg'; subst hg'; exact .inr hg)
  have hx : (fun b => (X b ∨ b ∈ B j) ∨ (w.heap.size ≤ b ∧ b < w'.heap.size)) = fun b => X b ∨ b ∈ B j := by
    funext b
    have := hw.size
    apply propext
    constructor
    · rintro (h | h)
      · exact h
      · omega
    · exact .inl
  rw [hx] at i2 p2
  have hN : ∀ b, NN c (TM.del h j) B (fun b => X b ∨ b ∈ B j) b ↔ NN c h B X b := by
    intro b
    unfold NN
    constructor
    · rintro (⟨q, r', hq, hb⟩ | (hE | hb) | hX)
      · rw [look_del] at hq
        split at hq
        · cases hq
        · exact .inl ⟨q, r', hq, hb⟩
      · exact .inr (.inl hE)
      · exact .inl ⟨j, root, hj, hb⟩
      · exact .inr (.inr hX)
    · rintro (⟨q, r', hq, hb⟩ | hE | hX)
      · by_cases he : j = q
        · subst he; exact .inr (.inl (.inr hb))
        · exact .inl ⟨q, r', by rw [look_del, if_neg he]; exact hq, hb⟩
      · exact .inr (.inl (.inl hE))
      · exact .inr (.inr hX)
  have hpN : ∀ N, (∀ b, N b ↔ NN c h B X b) → Pres G w N G w' N := by
    intro N hNN
    exact ⟨fun _ h => h, fun _ _ => rfl, fun _ _ => rfl, fun _ _ _ _ => rfl, fun b hb hNb => hw.block b (fun e => hNb ((hNN b).2 (.inl ⟨j, root, hj, e ▸ hg⟩))), fun _ _ h => h, Nat.le_of_eq hw.size.symm⟩
  obtain ⟨i3, p3⟩ := i2.add (Pres.refl _ _ _) j root' (B j) (TM.put h j root') (by rw [look_del, if_pos rfl]) (I.root j root hj).1 (fun q => by
    rw [look_put, look_del]
    by_cases hq : j = q
    · rw [if_pos hq, if_pos hq]
    · rw [if_neg hq, if_neg hq, if_neg hq]) (I.nodup j root hj) (fun b hb => .inr hb) (fun N hNN => hr N (fun b => (hNN b).trans (hN b)) (hpN N (fun b => (hNN b).trans (hN b))))
  obtain ⟨i4, p4⟩ := i3.less X (fun b hb => ⟨.inl hb, fun hbj => (I.own j root hj b hbj).2.2 hb⟩)
  exact ⟨_, i4, ((p1.trans p2).trans p3).trans p4⟩
theorem ro_one : ∀ {k : TM.K} {w : World} {rs : List Nat} {x : k.T} {cs : List Value}, k.flat = true → RO k w rs x cs → ∀ u, u ∈ cs → u.oneCell' = true
  | .int _, _, _, _, _, _, h, u, hu => by simp only [RO] at h; rw [h] at hu; simp only [List.mem_singleton] at hu; rw [hu]; rfl
  | .bool, _, _, _, _, _, h, u, hu => by simp only [RO] at h; rw [h] at hu; simp only [List.mem_singleton] at hu; rw [hu]; rfl
  | .str, _, _, _, _, _, h, u, hu => by simp only [RO] at h; rw [h] at hu; simp only [List.mem_singleton] at hu; rw [hu]; rfl
  | .list _, _, _, _, _, hf, _, _, _ => by simp [TM.K.flat] at hf
  | .arr n k, _, _, xs, cs, hf, h, u, hu => by
    simp only [RO] at h
    obtain ⟨h1, h2, h3⟩ := h
    obtain ⟨q, hq, rfl⟩ := List.mem_iff_getElem.1 hu
    have hs : 0 < k.size := by rw [h2] at hq; exact Nat.pos_of_ne_zero (fun e => by rw [e] at hq; omega)
    have hjq : q / k.size < List.length xs := by rw [h1]; exact Nat.div_lt_of_lt_mul (by rw [Nat.mul_comm, ← h2]; exact hq)
    refine ro_one (by simpa [TM.K.flat] using hf) (h3 (q / k.size) hjq) _ (List.mem_iff_getElem?.2 ⟨q % k.size, ?_⟩)
    rw [List.getElem?_take, if_pos (Nat.mod_lt _ hs), List.getElem?_drop]
    have h2 : q / k.size * k.size + q % k.size = q := by rw [Nat.mul_comm]; exact Nat.div_add_mod q k.size
    rw [h2, List.getElem?_eq_getElem hq]
  | .pair a b, _, _, _, _, hf, h, u, hu => by
    simp only [TM.K.flat, Bool.and_eq_true] at hf
    simp only [RO] at h
    obtain ⟨c1, c2, rfl, h1, h2⟩ := h
    rcases List.mem_append.1 hu with hu | hu
    · exact ro_one hf.1 h1 u hu
    · exact ro_one hf.2 h2 u hu
theorem store_arr (I : Inv c h G w B Emp sl vs) {t : Nat} {i : TInfo} (ht : tdOk P t i) {q off g n n' : Nat} {k k' : TM.K} {xs : List k.T} {ys : List k'.T} {va vx : Value} (hlook : look h q = some (.arr n k xs)) (hL : G.L q = .pointer (some ⟨g, 0, none⟩)) (c1 : off = 0) (c2 : n = n') (hk : k' = k) (c3 : i.size = n * k.size) (hva : va = .pointer (some ⟨g, off, none⟩))
    (hx : AVR G w (NN c h B Emp) (.arr n' k' ys) vx) {Q : Prop} (hr : K .undef (TM.put h q (.arr n k (hk ▸ ys))) nid = some r)
    (done : ∀ {w' : World} {ad : Addr} {h' : List (Nat × Root)} {B' : Nat → List Nat}, va = .pointer (some ad) → (storeVar t ad vx).run P w = .ok () w' → Inv c h' G w' B' Emp sl vs → K .undef h' nid = some r → Q) : Q := by
  subst hk; subst c2; subst c1
  obtain ⟨_, hroot⟩ := I.root q _ hlook
  simp only [RootR] at hroot
  obtain ⟨hkj, hfl, g', cur, ty, h1, h2, h3, h4⟩ := hroot
  rw [hL] at h1
  injection h1 with h1; injection h1 with h1; injection h1 with h1; subst h1
  simp only [AVR] at hx
  obtain ⟨rs, vc, rfl, h5, h6⟩ := hx
  have h5' := ro_flat (k := .arr n k') (by simpa [TM.K.flat] using hfl) h5
  have hone := ro_one (k := .arr n k') (by simpa [TM.K.flat] using hfl) h5
  have hs1 : vc.size = n * k'.size := by simpa [TM.K.size] using h5.len
  have hs2 : cur.size = n * k'.size := by simpa [TM.K.size] using h4.len
  obtain ⟨w', hrun, ho, hb⟩ := run_storeVar_blk ht g 0 ty (0, 0) cur h3 (.inr (Nat.le_refl 0)) (.agg vc) (by simp only [Value.cells]; omega) (by simp only [Value.cells]; omega) hone
  have hcur : (cur.toList.take 0 ++ (Value.agg vc).cells.toList ++ cur.toList.drop (0 + (Value.agg vc).cells.toList.length)).toArray = vc := by
    simp only [Value.cells, List.take_zero, List.nil_append, Nat.zero_add, Array.length_toList]
    rw [List.drop_eq_nil_of_le (by simp only [Array.length_toList]; omega), List.append_nil]
  rw [hcur] at hb
  obtain ⟨B', i2, _⟩ := I.put (root' := .arr n k' ys) hlook (g := g) (by rw [h2]; exact List.mem_singleton.2 rfl) ho (fun N hN hp => by
    simp only [RootR]
    exact ⟨hkj, hfl, g, vc, ty, hL, h2, hb, h5'.move (fun b hb => by cases hb)⟩)
  exact done hva hrun i2 hr
theorem nat_mul_lt {q x s o : Nat} (h : q < x) (ho : o < s) : q * s + o < x * s := by
  have : (q + 1) * s ≤ x * s := Nat.mul_le_mul_right _ h
  rw [Nat.succ_mul] at this; omega
theorem store_list (I : Inv c h G w B Emp sl vs) {t : Nat} {i : TInfo} (ht : tdOk P t i) {j gen g off x : Nat} {k : TM.K} {xs : List k.T} {e e' : k.T} {v : AV} {vx : Value} (hlook : look h j = some (.list gen k xs)) (hL : blockOf (G.L j) = some g) (he : xs[x]? = some e) (c1 : (cellsOf v).length = i.size) (c2 : 0 < i.size) (hset : setCells k e off (cellsOf v) = some e') (hx : AVR G w (NN c h B Emp) v vx) :
    ∃ w' B', (storeVar t ⟨g, x * (G.KJ j).size + off, none⟩ vx).run P w = .ok () w' ∧ Inv c (TM.put h j (.list gen k (xs.set x e'))) G w' B' Emp sl vs := by
  obtain ⟨hd, hroot⟩ := I.root j _ hlook
  simp only [RootR] at hroot
  obtain ⟨hk, hown, hhd, hgen⟩ := hroot
  obtain ⟨g', cur, ty, fr, b, o1, o2, o3, o4, o5, o6, o7, o8⟩ := own_set hown (I.nodup j _ hlook) he
  rw [hL] at o1
  injection o1 with o1
  subst o1
  have hne : cellsOf v ≠ [] := by intro e; rw [e] at c1; simp at c1; omega
  obtain ⟨r1, r2⟩ := avr_cells hx hne
  have hl1 := r1.length
  simp only [Array.length_toList] at hl1
  obtain ⟨s1, s2, s3⟩ := setCells_own hset o6 r1
  have s2 := s2 (by intro e; rw [e] at r2; have := r1.length; rw [e] at this; simp at this; exact hne this)
  rw [o6.len] at s2
  have hus : vx.cells.toList.length = vx.cells.size := Array.length_toList
  have hxl : x < xs.length := (List.getElem?_eq_some_iff.1 he).1
  obtain ⟨w', hrun, ho, hb⟩ := run_storeVar_blk ht g (x * k.size + off) ty fr cur o3 o4 vx (by omega) (by omega) r2
  rw [hk]
  have hcur := cells_in (cur := cur.toList) (us := vx.cells.toList) (a := x * k.size) (s := k.size) (off := off) (by rw [Array.length_toList]; exact o5) s2
  obtain ⟨B', i2, _⟩ := I.put (root' := .list gen k (xs.set x e')) hlook (g := g) o2 ho (fun N hN hp => by
    simp only [RootR]
    refine ⟨hk, o8 w' e' _ ho s1 (by rw [hb, hcur]), fun blk hblk q hq off' hoff' => ?_, hgen⟩
    rw [hL] at hblk
    injection hblk with hblk
    subst hblk
    rw [List.length_set] at hq
    have hold := hhd g hL q hq off' hoff'
    rw [← hold]
    simp only [World.cell?, hb, o3]
    have hlt := isL_lt hoff'
    simp only [Option.isSome, Bool.false_eq_true, if_false, List.getElem?_toArray]
    rcases Nat.lt_trichotomy q x with hqx | hqx | hqx
    · have h3 := nat_mul_lt hqx hlt
      rw [List.append_assoc, List.getElem?_append_left (by simp only [List.length_take, Array.length_toList]; omega), List.getElem?_take, if_pos (by omega), Array.getElem?_toList]
    · subst hqx
      rcases s3 off' hoff' with h4 | h4
      · rw [List.append_assoc, List.getElem?_append_left (by simp only [List.length_take, Array.length_toList]; omega), List.getElem?_take, if_pos (by omega), Array.getElem?_toList]
      · have hln : (cur.toList.take (q * k.size + off) ++ vx.cells.toList).length = q * k.size + off + vx.cells.toList.length := by simp only [List.length_append, List.length_take, Array.length_toList]; omega
        rw [List.getElem?_append_right (by rw [hln]; omega), hln, List.getElem?_drop, Array.getElem?_toList]
        congr 1
        omega
    · have h3 : x * k.size + k.size ≤ q * k.size := by
        have : (x + 1) * k.size ≤ q * k.size := Nat.mul_le_mul_right _ hqx
        rwa [Nat.succ_mul] at this
      have hln : (cur.toList.take (x * k.size + off) ++ vx.cells.toList).length = x * k.size + off + vx.cells.toList.length := by simp only [List.length_append, List.length_take, Array.length_toList]; omega
      rw [List.getElem?_append_right (by rw [hln]; omega), hln, List.getElem?_drop, Array.getElem?_toList]
      congr 1
      omega)
  exact ⟨w', B', hrun, i2⟩
theorem setCell_cells : ∀ {k : TM.K} {x : k.T} {off : Nat} {v : AV} {y : k.T}, setCell k x off v = some y → cellsOf v = [v]
  | .int _, _, off, v, _, h => by
    cases off <;> cases v <;> first | rfl | (simp [setCell] at h; done)
  | .bool, _, off, v, _, h => by
    cases off <;> cases v <;> first | rfl | (simp [setCell] at h; done)
  | .str, _, off, v, _, h => by
    cases off <;> cases v <;> first | rfl | (simp [setCell] at h; done)
  | .list _, _, _, _, _, h => by simp [setCell] at h
  | .arr _ _, _, _, _, _, h => by simp [setCell] at h
  | .pair a b, x, off, v, y, h => by
    simp only [setCell] at h
    cases hb : Nat.blt off a.size with
    | true =>
      rw [hb] at h
      simp only [cond_true] at h
      split at h
      · rename_i hy; exact setCell_cells hy
      · cases h
    | false =>
      rw [hb] at h
      simp only [cond_false] at h
      split at h
      · rename_i hy; exact setCell_cells hy
      · cases h
theorem store_arr_el (I : Inv c h G w B Emp sl vs) {t : Nat} {i : TInfo} (ht : tdOk P t i) {j g off x n : Nat} {k : TM.K} {xs : List k.T} {e e' : k.T} {v : AV} {vx : Value} (hlook : look h j = some (.arr n k xs)) (hL : blockOf (G.L j) = some g) (he : xs[x]? = some e) (hna : k.noArr = true) (c1 : (cellsOf v).length = i.size) (c2 : 0 < i.size) (hset : setCells k e off (cellsOf v) = some e') (hx : AVR G w (NN c h B Emp) v vx) :
    ∃ w' B', (storeVar t ⟨g, x * (G.KJ j).size + off, none⟩ vx).run P w = .ok () w' ∧ Inv c (TM.put h j (.arr n k (xs.set x e'))) G w' B' Emp sl vs := by
  obtain ⟨hd, hroot⟩ := I.root j _ hlook
  simp only [RootR] at hroot
  obtain ⟨hk, hfl, g', cur, ty, h1, h2, h3, h4⟩ := hroot
  rw [h1] at hL
  simp only [blockOf, Option.some.injEq] at hL
  subst hL
  obtain ⟨hxl, rfl⟩ := List.getElem?_eq_some_iff.1 he
  simp only [RO] at h4
  obtain ⟨n1, n2, n3⟩ := h4
  have o6 := ro_own hfl hna (n3 x hxl)
  have hne : cellsOf v ≠ [] := by intro e; rw [e] at c1; simp at c1; omega
  obtain ⟨r1, r2⟩ := avr_cells hx hne
  have hl1 := r1.length
  simp only [Array.length_toList] at hl1
  obtain ⟨s1, s2, s3⟩ := setCells_own hset o6 r1
  have s2 := s2 (by intro e; rw [e] at r2; have := r1.length; rw [e] at this; simp at this; exact hne this)
  rw [o6.len] at s2
  have hus : vx.cells.toList.length = vx.cells.size := Array.length_toList
  simp only [Array.length_toList] at n2
  have o5 : x * k.size + k.size ≤ cur.size := by rw [n2, ← Nat.succ_mul]; exact Nat.mul_le_mul_right _ (by omega)
  obtain ⟨w', hrun, ho, hb⟩ := run_storeVar_blk ht g' (x * k.size + off) ty (0, 0) cur h3 (.inr (Nat.le_refl 0)) vx (by omega) (by omega) r2
  rw [hk]
  have hcur := cells_in (cur := cur.toList) (us := vx.cells.toList) (a := x * k.size) (s := k.size) (off := off) (by rw [Array.length_toList]; exact o5) s2
  rw [hcur] at hb
  have hsl := s1.len
  obtain ⟨B', i2, _⟩ := I.put (root' := .arr n k (xs.set x e')) hlook (g := g') (by rw [h2]; exact List.mem_singleton.2 rfl) ho (fun N hN hp => by
    simp only [RootR]
    refine ⟨hk, hfl, g', _, ty, h1, h2, hb, ?_⟩
    simp only [RO]
    refine ⟨by rw [List.length_set]; exact n1, by simp only [List.length_append, List.length_take, List.length_drop, Array.length_toList] at hsl ⊢; omega, fun q hq => ?_⟩
    rw [List.length_set] at hq
    rw [els_set hsl (by rw [Array.length_toList]; exact o5)]
    by_cases hqx : q = x
    · subst hqx
      rw [if_pos rfl, List.getElem_set_self]
      exact s1.ro.move (fun b hb => by cases hb)
    · rw [if_neg hqx, List.getElem_set_ne (fun e => hqx e.symm)]
      exact (n3 q hq).move (fun b hb => by cases hb))
  exact ⟨w', B', hrun, i2⟩
theorem store_sim (I : Inv c h G w B Emp sl vs) (hE : TabOk P E) {t : Nat} {a x : AV} {va vx : Value} (hr : (semStore E t a x).run nid h K = some r) (ha : AVR G w (NN c h B Emp) a va) (hx : AVR G w (NN c h B Emp) x vx) : OpSim P c K r G nid sl vs (do Instr.storeAt t va vx; pure Next.skip) w := by
  have done : ∀ {w' : World} {ad : Addr} {h' : List (Nat × Root)} {B' : Nat → List Nat}, va = .pointer (some ad) → (storeVar t ad vx).run P w = .ok () w' → Inv c h' G w' B' Emp sl vs → K .undef h' nid = some r → OpSim P c K r G nid sl vs (do Instr.storeAt t va vx; pure Next.skip) w := by
    intro w' ad h' B' h1 h2 h3 h4
    subst h1
    refine .inr (.inl ⟨w', by simp [Instr.storeAt, Instr.sureAddr, h2], Out.of h3 h4 (fun _ h => h) (fun _ h => .inl h) (by simp only [AVR])⟩)
  unfold semStore at hr
  split at hr
  · rename_i i hi
    have ht := hE t i hi
    split at hr
    · rename_i q off
      simp only [AVR] at ha
      obtain ⟨hd, g, hL, hva⟩ := ha
      obtain ⟨root, hlook, hr⟩ := get_run hr
      obtain ⟨_, hroot⟩ := I.root q root hlook
      cases root with
      | list => cases hr
      | box cs =>
        obtain ⟨hc, hr⟩ := bif_run hr
        simp only [Bool.and_eq_true, Nat.blt_eq, Nat.ble_eq] at hc
        obtain ⟨⟨c1, c2⟩, c3⟩ := hc
        have c1 := Nat.eq_of_beq_eq_true c1
        simp only [HM.run] at hr
        simp only [RootR] at hroot
        obtain ⟨g', cur, ty, h1, h2, h3, h4, h5⟩ := hroot
        rw [hL] at h1
        injection h1 with h1; injection h1 with h1; injection h1 with h1; subst h1
        obtain ⟨r1, r2⟩ := avr_cells hx (by intro e; rw [e] at c1; simp at c1; omega)
        have hl1 := r1.length
        have hl2 := h5.length
        simp only [Array.length_toList] at hl1 hl2
        obtain ⟨w', hrun, ho, hb⟩ := run_storeVar_blk ht g off ty (0, 0) cur h3 (.inr (Nat.le_refl 0)) vx (by omega) (by omega) r2
        obtain ⟨B', i2, _⟩ := I.put (root' := .box (setRange cs off (cellsOf x))) hlook (g := g) (by rw [h2]; exact List.mem_singleton.2 rfl) ho (fun N hN hp => by
          simp only [RootR]
          have hNN : N = NN c h B Emp := by funext b; exact propext (hN b)
          subst hNN
          refine ⟨g, _, ty, hL, h2, hb, fun u hu => ?_, AVRs.pres hp _ _ ?_⟩
          · rcases List.mem_append.1 hu with hu | hu
            · rcases List.mem_append.1 hu with hu | hu
              · exact h4 u (List.mem_of_mem_take hu)
              · exact r2 u hu
            · exact h4 u (List.mem_of_mem_drop hu)
          · unfold setRange
            refine ((h5.take off).append r1).append ?_
            rw [show vx.cells.toList.length = (cellsOf x).length from by rw [Array.length_toList]; exact hl1.symm]
            exact h5.drop _)
        exact done hva hrun i2 hr
      | arr n k xs =>
        simp only at hr
        split at hr
        · rename_i n' k' ys
          obtain ⟨hc, hr⟩ := bif_run hr
          simp only [Bool.and_eq_true, Nat.blt_eq] at hc
          obtain ⟨⟨⟨c1, c2⟩, c3⟩, c4⟩ := hc
          have c1 := Nat.eq_of_beq_eq_true c1
          have c2 := Nat.eq_of_beq_eq_true c2
          have c3 := Nat.eq_of_beq_eq_true c3
          split at hr
          · rename_i hk
            simp only [HM.run] at hr
            exact store_arr I ht hlook hL c1 c2 hk c3 hva hx hr done
          · cases hr
        · cases hr
    · rename_i j x' off
      simp only [AVR] at ha
      obtain ⟨hd, g, hL, hva⟩ := ha
      obtain ⟨root, hlook, hr⟩ := get_run hr
      cases root with
      | box => cases hr
      | list gen k xs =>
        obtain ⟨e, he, hr⟩ := lift_run hr
        obtain ⟨hc, hr⟩ := bif_run hr
        simp only [Bool.and_eq_true, Nat.blt_eq] at hc
        have c1 := Nat.eq_of_beq_eq_true hc.1
        obtain ⟨h0, he⟩ := idx_some he
        have key : ∀ e', setCells k e off (cellsOf x) = some e' → K .undef (TM.put h j (.list gen k (xs.set x'.toNat e'))) nid = some r → OpSim P c K r G nid sl vs (do Instr.storeAt t va vx; pure Next.skip) w := by
          intro e' hset hK
          obtain ⟨w', B', e1, e2⟩ := store_list I ht hlook hL he c1 hc.2 hset hx
          exact done hva e1 e2 hK
        cases hfl : k.flat with
        | true =>
          rw [hfl] at hr
          simp only [cond_true] at hr
          split at hr
          · rename_i e' hset
            exact key e' hset hr
          · cases hr
        | false =>
          rw [hfl] at hr
          simp only [cond_false] at hr
          obtain ⟨h1, hr⟩ := bif_run hr
          split at hr
          · rename_i e' hset
            refine key e' ?_ hr
            rw [setCell_cells hset]
            simp [setCells, hset]
          · cases hr
      | arr n k xs =>
        obtain ⟨e, he, hr⟩ := lift_run hr
        obtain ⟨hc, hr⟩ := bif_run hr
        simp only [Bool.and_eq_true, Nat.blt_eq] at hc
        obtain ⟨⟨hna, c1⟩, c2⟩ := hc
        have c1 := Nat.eq_of_beq_eq_true c1
        obtain ⟨h0, he⟩ := idx_some he
        split at hr
        · rename_i e' hset
          obtain ⟨w', B', e1, e2⟩ := store_arr_el I ht hlook hL he hna c1 c2 hset hx
          exact done hva e1 e2 hr
        · cases hr
    · cases hr
  · cases hr
end
end Go.TM
