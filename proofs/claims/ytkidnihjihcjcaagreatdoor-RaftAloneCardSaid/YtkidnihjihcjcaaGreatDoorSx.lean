/- The engine's definitions: symbolic values, states, one step of an operation, the run of code; all computed by the kernel. -/
import Derived.OrdersHeld
import Derived.WalkKit
import Derived.KernelRfl
set_option linter.unusedSimpArgs false
set_option linter.unusedVariables false
namespace Go.Sx

/-- Numbers of blocks, addresses of rows. -/
structure Env where
  nu : Nat → Nat
  al : Nat → Option Addr

def Env.ad (ρ : Env) (id : Nat) : Addr := (ρ.al id).getD ⟨0, 0, none⟩

/-- Symbolic values. 'lit' is a known truth, 'bool' an open one; 'gd j w v' is v where slot j holds w, else undef. -/
inductive SV where
  | undef
  | int (k : IntKind) (n : Int)
  | lit (b : Bool)
  | bool (b : Bool)
  | ptr (id off : Nat)
  | ep (id sz i off : Nat)
  | sl (id n c : Nat)
  | csl (id off n c : Nat)
  | agg (l : List SV)
  | tup (l : List SV)
  | err (t : TypeId) (o : Option Int)
  | gd (j : Nat) (w : Bool) (v : SV)
  | val (v : Value)

mutual
def SV.den (ρ : Env) : SV → Value
  | .undef => Go.undef
  | .int k n => .int k n
  | .lit b => .bool b
  | .bool b => .bool b
  | .ptr id off => .pointer (some ⟨ρ.nu id, off, none⟩)
  | .ep id sz i off => .pointer (some ⟨(ρ.ad id).block, (ρ.ad id).off + i * sz + off, none⟩)
  | .sl id n c => .slice (ρ.al id) n c
  | .csl id off n c => .slice (some ⟨ρ.nu id, off, none⟩) n c
  | .agg l => .agg (denL ρ l).toArray
  | .tup l => .tuple (denL ρ l).toArray
  | .err t o => match o with
    | none => .nilIface
    | some n => .iface t (.int .i64 n)
  | .gd _ _ _ => Go.undef
  | .val v => v
def denL (ρ : Env) : List SV → List Value
  | [] => []
  | v :: l => v.den ρ :: denL ρ l
end

mutual
/-- Are all block numbers below n? -/
def SV.lt (n : Nat) : SV → Bool
  | .ptr id _ => id.blt n
  | .ep id _ _ _ => id.blt n
  | .sl id _ _ => id.blt n
  | .csl id _ _ _ => id.blt n
  | .agg l => ltL n l
  | .tup l => ltL n l
  | .gd _ _ v => v.lt n
  | _ => true
def ltL (n : Nat) : List SV → Bool
  | [] => true
  | v :: l => v.lt n && ltL n l
end

inductive Blk where
  | cells (cs : List SV) (t : TypeId)
  | row (sz n : Nat) (el : Nat → List SV)

structure St where
  slots : List (Nat × SV)
  tbl : List (Nat × Blk)
  nid : Nat

def gdOn (i : Nat) : SV → Bool
  | .gd j _ _ => j.beq i
  | _ => false
def getS : List (Nat × SV) → Nat → Option SV
  | [], _ => none
  | (k, v) :: l, i => bif k.beq i then some v else getS l i
def dropS : List (Nat × SV) → Nat → List (Nat × SV)
  | [], _ => []
  | (k, u) :: l, i => bif k.beq i || gdOn i u then dropS l i else (k, u) :: dropS l i
def getT : List (Nat × Blk) → Nat → Option Blk
  | [], _ => none
  | (k, v) :: l, i => bif k.beq i then some v else getT l i
def dropT : List (Nat × Blk) → Nat → List (Nat × Blk)
  | [], _ => []
  | (k, u) :: l, i => bif k.beq i then dropT l i else (k, u) :: dropT l i
def St.put (st : St) (d : Nat) (v : SV) : St := { st with slots := (d, v) :: dropS st.slots d }
def St.puto (st : St) : Option Nat → SV → St
  | none, _ => st
  | some d, v => st.put d v
def St.setT (st : St) (id : Nat) (b : Blk) : St := { st with tbl := (id, b) :: dropT st.tbl id }
def St.new (st : St) (b : Blk) : St := { st with tbl := (st.nid, b) :: st.tbl, nid := st.nid + 1 }

def ofVal : Value → SV
  | .int k n => .int k n
  | .bool b => .lit b
  | v => .val v
def ofVals : List Value → List SV
  | [] => []
  | v :: l => ofVal v :: ofVals l

/-- An operand: no gd. -/
def St.get (st : St) : Operand → Option SV
  | .tmp t => match getS st.slots t with
    | some (.gd _ _ _) => none
    | r => r
  | .const .nilIface => some (.err 0 none)
  | .const v => some (ofVal v)
  | .global g => some (.val (.pointer (some ⟨g, 0, none⟩)))
  | .func f => some (.val (.func (.func f) #[] #[]))

def oneVal : Value → Bool
  | .agg _ | .tuple _ => false
  | _ => true
def one : SV → Bool
  | .int _ _ | .lit _ | .bool _ | .ptr _ _ | .sl _ _ _ | .csl _ _ _ _ | .err _ _ => true
  | .val v => oneVal v
  | _ => false
def ones : List SV → Bool
  | [] => true
  | v :: l => one v && ones l
/-- A value's cells. -/
def cellsOf : SV → Option (List SV)
  | .agg l => bif ones l then some l else none
  | v => bif one v then some [v] else none

inductive Res where
  | ok (v : SV) (st : St)
  | need (c : Bool) (v : SV) (st : St)
  | stop

def okv (st : St) : Option SV → Res
  | some v => .ok v st
  | none => .stop

def isAggD (P : Program) (t : TypeId) : Option Bool :=
  match P.underlying t with
  | some (.struct _) => some true
  | some (.array _ _) => some true
  | some _ => some false
  | none => none
def szOf (P : Program) (t : TypeId) : Option Nat := (P.info? t).map (·.size)
def zeroCells (P : Program) (t : TypeId) : Option (List SV) :=
  match P.info? t with
  | some i => match i.zero with
    | some v => let l := ofVals v.cells.toList; bif ones l then some l else none
    | none => none
  | none => none
/-- A field's offset, type. -/
def fieldOf (P : Program) (t : TypeId) (f : Nat) : Option (Nat × TypeId) :=
  match P.underlying t with
  | some (.struct fs) => match fs[f]? with
    | some fd => some (fd.offset, fd.type)
    | none => none
  | _ => none
def elemOf (P : Program) (t : TypeId) : Option TypeId :=
  match P.underlying t with
  | some (.slice e) => some e
  | _ => none

def posI : Int → Bool
  | .ofNat (_ + 1) => true
  | _ => false
def bin : BinOp → SV → SV → Option SV
  | .lss, .int _ x, .int _ y => some (.bool (decide (x < y)))
  | .leq, .int _ x, .int _ y => some (.bool (decide (x ≤ y)))
  | .gtr, .int _ x, .int _ y => some (.bool (decide (x > y)))
  | .geq, .int _ x, .int _ y => some (.bool (decide (x ≥ y)))
  | .eql, .int _ x, .int _ y => some (.bool (x == y))
  | .neq, .int _ x, .int _ y => some (.bool (x != y))
  | .add, .int k x, .int _ y => some (.int k (k.wrap (x + y)))
  | .sub, .int k x, .int _ y => some (.int k (k.wrap (x - y)))
  | .mul, .int k x, .int _ y => some (.int k (k.wrap (x * y)))
  | .quo, .int k x, .int _ y => bif posI y then some (.int k (k.wrap (x.tdiv y))) else none
  | .rem, .int k x, .int _ y => bif posI y then some (.int k (x.tmod y)) else none
  | _, _, _ => none
def kindOf : SV → Option IntKind
  | .int k _ => some k
  | _ => none
def isNoneA {α : Type} : Option α → Bool
  | none => true
  | some _ => false
def isNoneI : Option Int → Bool
  | none => true
  | some _ => false
/-- x == y where one is nil. -/
def eqNil : TypeDesc → SV → SV → Option SV
  | .interface _, .err _ o, .err _ none => some (.bool (isNoneI o))
  | .slice _, .val (.slice a _ _), .val (.slice none _ _) => some (.bool (isNoneA a))
  | .slice _, .csl _ _ _ _, .val (.slice none _ _) => some (.lit false)
  | .pointer _, .ptr _ _, .val (.pointer none) => some (.lit false)
  | .pointer _, .ep _ _ _ _, .val (.pointer none) => some (.lit false)
  | .pointer _, .val (.pointer none), .val (.pointer none) => some (.lit true)
  | .pointer _, .val (.pointer (some _)), .val (.pointer none) => some (.lit false)
  | _, _, _ => none
def notV : SV → Option SV
  | .lit b => some (.lit (!b))
  | .bool b => some (.bool (!b))
  | _ => none
def sameK (x y : SV) : Bool := match kindOf x, kindOf y with
  | some k, some k' => k == k'
  | _, _ => false

/-- Under the guard (j, w). -/
def bareV (j : Nat) (w : Bool) : SV → SV
  | .gd j' w' v => bif j.beq j' && (w == w') then v else .gd j' w' v
  | v => v
def bareS (j : Nat) (w : Bool) : List (Nat × SV) → List (Nat × SV)
  | [] => []
  | (k, v) :: l => (k, bareV j w v) :: bareS j w l

/-- Slot j is known to hold b. -/
def knowS (j : Nat) (b : Bool) : List (Nat × SV) → List (Nat × SV)
  | [] => []
  | (k, .gd j' w v) :: l => bif j.beq j' then (k, bif w == b then v else .undef) :: knowS j b l else (k, .gd j' w v) :: knowS j b l
  | (k, v) :: l => (k, bif k.beq j then .lit b else v) :: knowS j b l
def St.know (st : St) (j : Nat) (b : Bool) : St := { st with slots := knowS j b st.slots }

def pickB (c : Bool) : SV → SV → Option SV
  | .lit true, .lit true => some (.lit true)
  | .lit true, .lit false => some (.bool c)
  | .lit false, .lit true => some (.bool (!c))
  | .lit false, .lit false => some (.lit false)
  | .lit true, .bool q => some (.bool (c || q))
  | .lit false, .bool q => some (.bool (!c && q))
  | .bool p, .lit true => some (.bool (!c || p))
  | .bool p, .lit false => some (.bool (c && p))
  | .bool p, .bool q => some (.bool (bif c then p else q))
  | .int k p, .int k' q => bif k == k' then some (.int k (bif c then p else q)) else none
  | _, _ => none
def getRaw (st : St) : Operand → Option SV
  | .tmp t => getS st.slots t
  | x => st.get x
def pickv (st : St) (c x y : Operand) : Option SV :=
  match c with
  | .tmp j => match getS st.slots j, getRaw st x, getRaw st y with
    | some (.lit true), some x, _ => match bareV j true x with
      | .gd _ _ _ => none
      | v => some v
    | some (.lit false), _, some y => match bareV j false y with
      | .gd _ _ _ => none
      | v => some v
    | some (.bool b), some x, some y => pickB b (bareV j true x) (bareV j false y)
    | _, _, _ => none
  | _ => none

def noGd : SV → Option SV
  | .gd _ _ _ => none
  | v => some v
def takeAt (cs : List SV) (off n : Nat) : Option (List SV) := bif (off + n).ble cs.length then some ((cs.drop off).take n) else none
def pack (ag : Bool) (l : List SV) : Option SV := bif ag then some (.agg l) else match l with
  | [v] => noGd v
  | _ => none
def loadP (st : St) (ag : Bool) (n id off : Nat) : Option SV :=
  match getT st.tbl id with
  | some (.cells cs _) => match takeAt cs off n with
    | some l => pack ag l
    | none => none
  | _ => none
def setAt : List SV → Nat → List SV → List SV
  | cs, _, [] => cs
  | cs, off, v :: l => setAt (cs.set off v) (off + 1) l

def pow47 : Nat := 9223372036854775808

def maxL : Int → List SV → Option Int
  | a, [] => some a
  | a, .int .i64 b :: l => maxL (max a b) l
  | _, _ => none
def minL : Int → List SV → Option Int
  | a, [] => some a
  | a, .int .i64 b :: l => minL (min a b) l
  | _, _ => none
def getL (st : St) : List Operand → Option (List SV)
  | [] => some []
  | x :: l => match st.get x, getL st l with
    | some v, some r => some (v :: r)
    | _, _ => none
def fillS (P : Program) (t : TypeId) (st : St) : List SV → List (Nat × Operand) → Option (List SV)
  | cs, [] => some cs
  | cs, (f, x) :: l => match fieldOf P t f, st.get x with
    | some (off, ft), some v => match szOf P ft, cellsOf v with
      | some n, some vs => bif vs.length.beq n && (off + n).ble cs.length then fillS P t st (setAt cs off vs) l else none
      | _, _ => none
    | _, _ => none
def fillR (st : St) (sz : Nat) : List SV → List (Nat × Operand) → Option (List SV)
  | cs, [] => some cs
  | cs, (i, x) :: l => match st.get x with
    | some v => match cellsOf v with
      | some vs => bif vs.length.beq sz && (i * sz + sz).ble cs.length then fillR st sz (setAt cs (i * sz) vs) l else none
      | none => none
    | none => none
def repL (z : List SV) : Nat → List SV
  | 0 => []
  | n + 1 => z ++ repL z n
def natOf : Option Operand → St → Nat → Option Int
  | none, _, d => some d
  | some x, st, _ => match st.get x with
    | some (.int .i64 n) => some n
    | _ => none

def divs : BinOp → Bool
  | .rem | .quo => true
  | _ => false
/-- A division by what is not written out. -/
def divV (st : St) : BinOp → SV → SV → Res
  | .rem, .int k x, .int _ y => .need (decide (0 < y)) (.int k (x.tmod y)) st
  | .quo, .int k x, .int _ y => .need (decide (0 < y)) (.int k (k.wrap (x.tdiv y))) st
  | _, _, _ => .stop
/-- One operation, not a call of a Go function. -/
def step (P : Program) (st : St) (o : Oper) : Res :=
  match o.op with
  | .move x => okv st (st.get x)
  | .assign x => okv st (st.get x)
  | .binOp op t x y _ => match st.get x, st.get y with
    | some u, some v => bif sameK u v then (bif divs op && !Region.isConst y then divV st op u v else okv st (bin op u v)) else (match op, Region.isConst y, P.underlying t with
      | .eql, true, some d => okv st (eqNil d u v)
      | .neq, true, some d => okv st ((eqNil d u v).bind notV)
      | _, _, _ => .stop)
    | _, _ => .stop
  | .unOp .not _ x => okv st ((st.get x).bind notV)
  | .unOp .neg _ x => match st.get x with
    | some (.int k n) => .ok (.int k (k.wrap (0 - n))) st
    | _ => .stop
  | .pick c x y => okv st (pickv st c x y)
  | .convert s d x => match P.underlying s, P.underlying d, st.get x with
    | some (.int _), some (.int k), some (.int _ n) => .ok (.int k (k.wrap n)) st
    | _, _, _ => .stop
  | .makeInterface t x => match P.underlying t, st.get x with
    | some (.int _), some (.int .i64 n) => .ok (.err t (some n)) st
    | _, _ => .stop
  | .extract x i => match st.get x with
    | some (.tup l) => okv st (l[i]?.bind noGd)
    | _ => .stop
  | .field t x f => match fieldOf P t f, st.get x with
    | some (off, ft), some (.agg l) => match isAggD P ft, szOf P ft with
      | some ag, some n => match takeAt l off n with
        | some r => bif ag || n.beq 1 then okv st (pack ag r) else .stop
        | none => .stop
      | _, _ => .stop
    | _, _ => .stop
  | .fieldAddr t x f => match fieldOf P t f, st.get x with
    | some (off, ft), some v => match szOf P ft, v with
      | some (_ + 1), .ptr id o => .ok (.ptr id (o + off)) st
      | some (_ + 1), .ep id sz i o => .ok (.ep id sz i (o + off)) st
      | _, _ => .stop
    | _, _ => .stop
  | .nilCheck x => match st.get x with
    | some (.ptr id o) => .ok (.ptr id o) st
    | some (.ep id sz i o) => .ok (.ep id sz i o) st
    | _ => .stop
  | .load t x => match isAggD P t, szOf P t, st.get x with
    | some ag, some n, some (.ptr id off) => bif ag || n.beq 1 then okv st (loadP st ag n id off) else .stop
    | some ag, some n, some (.ep id sz i off) => match getT st.tbl id with
      | some (.row sz' m el) => bif sz.beq sz' && (ag || n.beq 1) then (match takeAt (el i) off n with
        | some l => match pack ag l with
          | some v => .need (decide (i < m)) v st
          | none => .stop
        | none => .stop) else .stop
      | _ => .stop
    | _, _, _ => .stop
  | .alloc t => match zeroCells P t with
    | some z => .ok (.ptr st.nid 0) (st.new (.cells z t))
    | none => .stop
  | .box t x => match st.get x with
    | some v => match cellsOf v with
      | some cs => .ok (.ptr st.nid 0) (st.new (.cells cs t))
      | none => .stop
    | none => .stop
  | .store t x y => match szOf P t, st.get x, st.get y with
    | some n, some (.ptr id off), some v => match cellsOf v, getT st.tbl id with
      | some vs, some (.cells cs ct) => bif vs.length.beq n && (off + n).ble cs.length then .ok .undef (st.setT id (.cells (setAt cs off vs) ct)) else .stop
      | _, _ => .stop
    | _, _, _ => .stop
  | .indexAddr t x i => match elemOf P t, st.get x, st.get i with
    | some e, some (.sl id n _), some (.int _ k) => match szOf P e, getT st.tbl id with
      | some sz, some (.row sz' m _) => bif sz.beq sz' then .need (decide (0 ≤ k ∧ k < n ∧ n ≤ m)) (.ep id sz k.toNat 0) st else .stop
      | _, _ => .stop
    | some e, some (.csl id off n _), some (.int _ k) => match szOf P e with
      | some sz => .need (decide (0 ≤ k ∧ k < n)) (.ptr id (off + k.toNat * sz)) st
      | none => .stop
    | _, _, _ => .stop
  | .slice t x lo hi mx => bif hi.isNone && mx.isSome then .stop else match elemOf P t, st.get x with
    | some e, some (.sl id n c) => match szOf P e, getT st.tbl id, natOf lo st 0, natOf hi st n, natOf mx st c with
      | some sz, some (.row sz' k el), some l, some h, some m => bif sz.beq sz' then
          .need (decide (0 ≤ l ∧ l ≤ h ∧ h ≤ n ∧ h ≤ m ∧ m ≤ c ∧ n ≤ k)) (.sl st.nid (h - l).toNat (m - l).toNat)
            (st.new (.row sz (h - l).toNat fun i => el (l.toNat + i))) else .stop
      | _, _, _, _, _ => .stop
    | _, _ => .stop
  | .build t parts => match P.underlying t, zeroCells P t with
    | some (.struct fs), some z => bif fs.toList.all (fun f => (szOf P f.type).isSome) then (match fillS P t st z parts.toList with
      | some cs => .ok (.agg cs) st
      | none => .stop) else .stop
    | _, _ => .stop
  | .buildSlice t len parts => match elemOf P t with
    | some e => match szOf P e, zeroCells P e with
      | some sz, some z => bif (len * sz).ble 10000 && z.length.beq sz then (match fillR st sz (repL z len) parts.toList with
          | some cs => .ok (.csl st.nid 0 len len) (st.new (.cells cs e))
          | none => .stop) else .stop
      | _, _ => .stop
    | none => .stop
  | .call c => match c.callee, c.args.toList with
    | .builtin .len, [x] => match (c.argTypes[0]?).bind P.underlying, st.get x with
      | some (.slice _), some (.sl _ n _) => .ok (.int .i64 n) st
      | some (.slice _), some (.csl _ _ n _) => .ok (.int .i64 n) st
      | some (.slice _), some (.val (.slice _ n _)) => .ok (.int .i64 n) st
      | some .string, some (.val (.string s)) => .ok (.int .i64 s.size) st
      | _, _ => .stop
    | .builtin .max, x :: l => match st.get x, getL st l with
      | some (.int .i64 a), some r => match maxL a r with
        | some m => .ok (.int .i64 m) st
        | none => .stop
      | _, _ => .stop
    | .builtin .min, x :: l => match st.get x, getL st l with
      | some (.int .i64 a), some r => match minL a r with
        | some m => .ok (.int .i64 m) st
        | none => .stop
      | _, _ => .stop
    | _, _ => .stop
  | _ => .stop

/-- What answers with a condition. -/
def needs : Op → Bool
  | .indexAddr .. | .slice .. => true
  | _ => false
def mayNeed : Op → Bool
  | .indexAddr .. | .slice .. | .load .. => true
  | .binOp op _ _ _ _ => divs op
  | _ => false
def step1 (P : Program) (st : St) (o : Oper) : Res :=
  match step P st o with
  | .ok v st' => bif needs o.op then .stop else .ok v st'
  | .need c v st' => bif mayNeed o.op then .need c v st' else .stop
  | .stop => .stop

/-- May be carried out whatever its guard says: it does nothing but yield. -/
def pureOp : Op → Bool
  | .move _ | .assign _ | .binOp .. | .unOp .. | .pick .. | .convert .. | .makeInterface .. | .extract .. | .field .. | .fieldAddr .. | .nilCheck _ | .load .. | .build .. => true
  | .call c => match c.callee with
    | .builtin .len | .builtin .max | .builtin .min => true
    | _ => false
  | _ => false

inductive It where
  | code (c : Code)
  | ops (all l : List Oper)
  | blk (id : Nat)
  | mark (m : Nat)
  | any (fuel : Nat) (hold : List Nat) (ops : List Oper) (listed : List Bool)

inductive Tree where
  | br (c : Bool) (t e : Tree)
  | need (c : Bool) (t : Tree)
  | both (t e : Tree)
  | ret (v : SV) (st : St)
  | mark (m : Nat) (st : St)
  | call (f : FuncId) (args : List SV) (d : Option Nat) (k : List It) (st : St)
  | stop (k : List It) (st : St)
  | hand (o : Oper) (k : List It) (st : St)
  | done
  | fail

def exitTo (id : Nat) : List It → Option (List It)
  | [] => none
  | .blk j :: k => bif j.beq id then some k else exitTo id k
  | _ :: k => exitTo id k
def dstOf (all : List Oper) (g : Nat) : Option Nat := match all[g]? with
  | some o => o.dst
  | none => none

def resV (P : Program) (st : St) : ResultVar → Option SV
  | .tmp t => match getS st.slots t with
    | some (.gd _ _ _) => none
    | r => r
  | .cell t ty => match getS st.slots t, isAggD P ty, szOf P ty with
    | some (.ptr id off), some ag, some n => bif ag || n.beq 1 then loadP st ag n id off else none
    | _, _, _ => none
def resL (P : Program) (st : St) : List ResultVar → Option (List SV)
  | [] => some []
  | r :: l => match resV P st r, resL P st l with
    | some v, some r => some (v :: r)
    | _, _ => none
def resOf (P : Program) (st : St) (rs : List ResultVar) : Option SV :=
  match resL P st rs with
  | some [v] => some v
  | some l => some (.tup l)
  | none => none

def fitD (N : Nat) : Option Nat → Bool
  | none => true
  | some d => d.blt N

mutual
def forceV {β : Type} : SV → (SV → β) → β
  | .undef, k => k .undef
  | .int i n, k => k (.int i n)
  | .lit true, k => k (.lit true)
  | .lit false, k => k (.lit false)
  | .bool b, k => k (.bool b)
  | .ptr id off, k => k (.ptr id off)
  | .ep id sz i off, k => k (.ep id sz i off)
  | .sl id n c, k => k (.sl id n c)
  | .csl id o n c, k => k (.csl id o n c)
  | .agg l, k => forceL l fun l => k (.agg l)
  | .tup l, k => forceL l fun l => k (.tup l)
  | .err t o, k => k (.err t o)
  | .gd j w v, k => forceV v fun v => k (.gd j w v)
  | .val v, k => k (.val v)
def forceL {β : Type} : List SV → (List SV → β) → β
  | [], k => k []
  | v :: l, k => forceV v fun v => forceL l fun l => k (v :: l)
end
def forceS {β : Type} : List (Nat × SV) → (List (Nat × SV) → β) → β
  | [], k => k []
  | (i, v) :: l, k => forceV v fun v => forceS l fun l => k ((i, v) :: l)
def forceT {β : Type} : List (Nat × Blk) → (List (Nat × Blk) → β) → β
  | [], k => k []
  | (i, .cells cs t) :: l, k => forceL cs fun cs => forceT l fun l => k ((i, .cells cs t) :: l)
  | (i, .row sz n el) :: l, k => forceT l fun l => k ((i, .row sz n el) :: l)
def force {β : Type} : St → (St → β) → β
  | ⟨s, t, n⟩, k => forceS s fun s => forceT t fun t => k ⟨s, t, n⟩

/-- The ids that a table's rows and cells have. -/
def stored (P : Program) (st : St) : List Oper → List Nat → List Nat
  | [], acc => acc
  | o :: l, acc => match o.op with
    | .store _ x _ => match st.get x with
      | some (.ptr id _) => stored P st l (id :: acc)
      | _ => stored P st l acc
    | _ => match step P st o with
      | .ok v st' => stored P (st'.puto o.dst v) l acc
      | .need _ v st' => stored P (st'.puto o.dst v) l acc
      | .stop => stored P (match o.dst with | some d => { st with slots := dropS st.slots d } | none => st) l acc
def idsBut (acc : List Nat) : List (Nat × Blk) → List Nat
  | [] => []
  | (i, _) :: l => bif acc.any (i.beq ·) then idsBut acc l else i :: idsBut acc l

/-- May be taken first in a region that draws: it yields, hanging on slots and on what is held alone. -/
def takes (st : St) (hold : List Nat) (o : Oper) : Bool :=
  match o.op with
  | .move _ | .assign _ | .unOp .. | .pick .. | .makeInterface .. | .extract .. | .field .. | .fieldAddr .. | .nilCheck _ | .build .. | .indexAddr .. => true
  | .convert _ _ x => match st.get x with
    | some (.int _ _) => true
    | _ => false
  | .binOp _ _ x _ _ => match st.get x with
    | some (.val (.string _)) => false
    | _ => true
  | .call c => match c.callee with
    | .builtin .len | .builtin .max | .builtin .min => true
    | _ => false
  | .load _ x => match st.get x with
    | some (.ptr id _) => hold.any (id.beq ·)
    | some (.ep id _ _ _) => hold.any (id.beq ·)
    | _ => false
  | _ => false

/-- What is to be done with an operation: skip it; carry it out; carry it out though its guard is open; part at its guard; not known. -/
inductive How where
  | skip | plain | open_ (j : Nat) (w : Bool) | part (j : Nat) (b : Bool) | no
def isSkip : How → Bool
  | .skip => true
  | _ => false
def how (all : List Oper) (st : St) (o : Oper) : How :=
  match o.guard with
  | none => .plain
  | some (g, w) => match dstOf all g with
    | none => .skip
    | some j => match getS st.slots j with
      | some (.lit b) => bif b == w then .plain else .skip
      | some (.bool b) => bif pureOp o.op then .open_ j w else .part j b
      | some (.gd _ _ _) => bif pureOp o.op then .open_ j w else .no
      | some .undef => .skip
      | _ => .no

def calleeOf : Op → Option (FuncId × List Operand)
  | .call c => match c.callee with
    | .value (.func f) => some (f, c.args.toList)
    | _ => none
  | _ => none
/-- A function with a body that is called as it stands. -/
def callable (P : Program) (f : FuncId) : Bool := match P.funcs[f]? with
  | some fn => fn.body.isSome && !(fn.name == "runtime.NumGoroutine")
  | none => false

/-- The first that may be taken first. -/
def firstTake (st : St) (hold : List Nat) (ops : List Oper) (listed : List Bool) : List Nat → Option (Nat × Oper)
  | [] => none
  | i :: l => match ops[i]? with
    | some o => bif (takes st hold o || isSkip (how ops st o)) && Region.free .any ops.toArray listed.toArray i then some (i, o) else firstTake st hold ops listed l
    | none => firstTake st hold ops listed l
def each (f : Nat → Tree) : List Nat → Tree
  | [] => .fail
  | [i] => f i
  | i :: l => .both (f i) (each f l)
/-- What is held is not written. -/
def safe (st : St) (hold : List Nat) : Op → Bool
  | .store _ x _ => match st.get x with
    | some (.ptr id _) => !hold.any (id.beq ·)
    | _ => false
  | _ => true

/-- What follows begins with no region under way. -/
def tail (k : List It) (t : Tree) : Tree := match k with
  | .any _ _ _ _ :: _ => .fail
  | _ => t

/-- Part at an open slot. -/
def partOn (st : St) (j : Nat) (t : St → Tree) : Tree := match getS st.slots j with
  | some (.bool b) => .br b (t (st.know j true)) (t (st.know j false))
  | _ => .fail

/-- Code and operations, until something must be done by hand. N: how many slots there are; rs: where the results lie. -/
def run (P : Program) (N : Nat) (rs : List ResultVar) : Nat → List It → St → Tree
  | 0, k, st => .stop k st
  | n + 1, k, st => match k with
    | [] => match resOf P st rs with
      | some v => .ret v st
      | none => .fail
    | .mark m :: _ => .mark m st
    | .blk _ :: k => tail k (run P N rs n k st)
    | .code c :: k => match c with
      | .seq a b => run P N rs n (.code a :: .code b :: k) st
      | .skip => tail k (run P N rs n k st)
      | .ret => match resOf P st rs with
        | some v => .ret v st
        | none => .fail
      | .block id c => run P N rs n (.code c :: .blk id :: k) st
      | .exit id => match exitTo id k with
        | none => .fail
        | some k => tail k (run P N rs n k st)
      | .cond c x y => match st.get c with
        | some (.lit b) => run P N rs n (.code (bif b then x else y) :: k) st
        | some (.bool b) => match c with
          | .tmp j => .br b (run P N rs n (.code x :: k) (st.know j true)) (run P N rs n (.code y :: k) (st.know j false))
          | _ => .fail
        | _ => .fail
      | .region _ ops false => run P N rs n (.ops ops.toList ops.toList :: k) st
      | .region _ ops true => bif P.follows .mixedOrders && Region.noSelect ops then
          run P N rs n (.any ops.size (idsBut (stored P st ops.toList []) st.tbl) ops.toList (List.replicate ops.size false) :: k) st else .fail
      | c => .stop (.code c :: k) st
    | .ops _ [] :: k => tail k (run P N rs n k st)
    | .ops all (o :: l) :: k => match how all st o with
      | .skip => bif fitD N o.dst then force (st.puto o.dst .undef) (run P N rs n (.ops all l :: k)) else .fail
      | .plain => bif fitD N o.dst then (match calleeOf o.op with
        | some (f, xs) => match getL st xs with
          | some args => bif callable P f then .call f args o.dst (.ops all l :: k) st else .hand o (.ops all l :: k) st
          | none => .hand o (.ops all l :: k) st
        | none => match step1 P st o with
          | .ok v st' => force (st'.puto o.dst v) (run P N rs n (.ops all l :: k))
          | .need c v st' => .need c (force (st'.puto o.dst v) (run P N rs n (.ops all l :: k)))
          | .stop => .hand o (.ops all l :: k) st) else .fail
      | .open_ j w => bif fitD N o.dst then (match o.dst, step1 P { st with slots := bareS j w st.slots } o with
        | some d, .ok v _ => match v with
          | .gd _ _ _ => .fail
          | v => bif d.beq j || !v.lt st.nid then .fail else force (st.put d (.gd j w v)) (run P N rs n (.ops all l :: k))
        | _, _ => partOn st j (run P N rs n (.ops all (o :: l) :: k))) else .fail
      | .part j b => .br b (run P N rs n (.ops all (o :: l) :: k) (st.know j true)) (run P N rs n (.ops all (o :: l) :: k) (st.know j false))
      | .no => .fail
    | .any fuel hold ops listed :: k => match fuel, Region.ready .any ops.toArray listed.toArray with
      | _, [] => tail k (run P N rs n k st)
      | 0, _ => .fail
      | f + 1, r :: l => match firstTake st hold ops listed (r :: l) with
        | some (i, o) => bif Region.noSelect ops.toArray then (match how ops st o with
          | .skip => bif fitD N o.dst then force (st.puto o.dst .undef) (run P N rs n (.any f hold ops (listed.set i true) :: k)) else .fail
          | .plain => bif fitD N o.dst then (match step1 P st o with
            | .ok v _ => force (st.puto o.dst v) (run P N rs n (.any f hold ops (listed.set i true) :: k))
            | .need c v _ => .need c (force (st.puto o.dst v) (run P N rs n (.any f hold ops (listed.set i true) :: k)))
            | .stop => .stop (.any (f + 1) hold ops listed :: k) st) else .fail
          | .open_ j w => bif fitD N o.dst && takes { st with slots := bareS j w st.slots } hold o then (match o.dst, step1 P { st with slots := bareS j w st.slots } o with
            | some d, .ok v _ => match v with
              | .gd _ _ _ => .fail
              | v => bif d.beq j || !v.lt st.nid then .fail else force (st.put d (.gd j w v)) (run P N rs n (.any f hold ops (listed.set i true) :: k))
            | _, _ => partOn st j (run P N rs n (.any (f + 1) hold ops listed :: k))) else partOn st j (run P N rs n (.any (f + 1) hold ops listed :: k))
          | .part j b => .br b (run P N rs n (.any (f + 1) hold ops listed :: k) (st.know j true)) (run P N rs n (.any (f + 1) hold ops listed :: k) (st.know j false))
          | .no => .fail) else .fail
        | none => each (fun i => match ops[i]? with
          | none => .fail
          | some o => match how ops st o with
            | .plain => bif fitD N o.dst then (match calleeOf o.op with
              | some (f', xs) => match getL st xs with
                | some args => bif callable P f' then .call f' args o.dst (.any f hold ops (listed.set i true) :: k) st else .hand o (.any f hold ops (listed.set i true) :: k) st
                | none => .hand o (.any f hold ops (listed.set i true) :: k) st
              | none => bif safe st hold o.op then (match step1 P st o with
                | .ok v st' => force (st'.puto o.dst v) (run P N rs n (.any f hold ops (listed.set i true) :: k))
                | .need c v st' => .need c (force (st'.puto o.dst v) (run P N rs n (.any f hold ops (listed.set i true) :: k)))
                | .stop => .hand o (.any f hold ops (listed.set i true) :: k) st) else .fail) else .fail
            | .part j b => .br b (run P N rs n (.any (f + 1) hold ops listed :: k) (st.know j true)) (run P N rs n (.any (f + 1) hold ops listed :: k) (st.know j false))
            | .open_ j _ => partOn st j (run P N rs n (.any (f + 1) hold ops listed :: k))
            | _ => .fail) (r :: l)
end Go.Sx
