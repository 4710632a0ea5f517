/-
  AN ABSTRACT EVALUATOR OF THE MODEL's CODE: pure data for values (a slice is the list of its elements' cells), objects by number for memory that is written, no tape. The condition: none; what it is worth is said in GabSound. THE ABSTRACT EVALUATOR, PART TWO: code, regions, calls, rounds of a range over a function, deferred calls: the least functions with these equations. No condition.
-/
import Derived.Control

namespace Go.Abs
inductive E where
  | bool (b : Bool)
  | int (k : IntKind) (n : Int)
  | str (s : ByteArray)
  | nilptr
  | sl (es : List (List E))
  | nilmap
  | nilfn
  | nilif
  | iface (t : TypeId) (x : E)
  deriving Inhabited
inductive D where
  | e (x : E)
  | osl (ex fu : Bool) (sz : Nat) (es : List (List E))
  | hdr (n : Nat)
  | ptr (i off : Nat)
  | rptr (cs : List E) (off : Nat)
  | asl (i off len : Nat)
  | map (i : Nat)
  | func (fn : Fn) (first cap : List D)
  | iface (t : TypeId) (d : D)
  | agg (cs : List D)
  | tup (vs : List D)
  deriving Inhabited
abbrev D.bool (b : Bool) : D := .e (.bool b)
abbrev D.int (k : IntKind) (n : Int) : D := .e (.int k n)
abbrev D.str (s : ByteArray) : D := .e (.str s)
abbrev Zaw : D := .tup []
inductive O where
  | cells (cs : List D)
  | map (es : List (E × D))
  | loop (st : LoopState) (pend : Option Code) (fn : FuncId) (env : List D) (ps : List Tmp) (asg body : Code)
  | dead
  deriving Inhabited
inductive Rc where
  | no
  | rnd (l : Nat)
  | nil
  | avail (d : D)
  | took
  deriving Inhabited
structure St where
  t : List D
  d : List (FuncId × List D)
  r : Rc
  h : List O
  deriving Inhabited
inductive X where
  | nrm
  | ext (id : Nat)
  | gto (l : Nat)
  | ret
  | pan (d : D)
  deriving Inhabited
inductive Out where
  | val (d : D)
  | pan (d : D)
  | rcv (d : D)
  deriving Inhabited
inductive Tgt where
  | fn (f : FuncId)
  | round (l : Nat)
  | dfn (f : FuncId) (u : Option D)
  deriving Inhabited
variable (P : Program)
def ofV0 : Value → Option E
  | .bool b => some (.bool b)
  | .int k n => some (.int k n)
  | .string s => some (.str s)
  | .pointer none => some .nilptr
  | .map none => some .nilmap
  | .nilFunc => some .nilfn
  | .nilIface => some .nilif
  | _ => none
def ofV1 : Value → Option D
  | .slice none 0 0 => some (.osl false true 0 [])
  | v => (ofV0 v).map .e
def ofVs : List Value → Option (List D)
  | [] => some []
  | v :: vs => match ofV1 v, ofVs vs with
    | some d, some ds => some (d :: ds)
    | _, _ => none
def ofV : Value → Option D
  | .agg cs => (ofVs cs.toList).map .agg
  | .tuple vs => if vs.isEmpty then some Zaw else none
  | v => ofV1 v
def Zh7 : D → D
  | .osl true _ _ es => .hdr es.length
  | .osl false true sz es => .osl false true sz es
  | .osl false false _ es => .e (.sl es)
  | d => d
def left : D → D
  | .agg cs => .agg (cs.map Zh7)
  | d => Zh7 d
def Zlo : D → D
  | .tup vs => .tup (vs.map left)
  | d => left d
def shr0 : D → D
  | .osl _ true sz es => .osl false true sz es
  | .osl _ false _ es => .e (.sl es)
  | d => d
def shr : D → D
  | .agg cs => .agg (cs.map shr0)
  | d => shr0 d
def shrT : D → D
  | .tup vs => Zlo (.tup vs)
  | d => shr d
def kep0 : D → D
  | .osl _ fu sz es => .osl false fu sz es
  | d => d
def kep : D → D
  | .agg cs => .agg (cs.map kep0)
  | d => kep0 d
def cellsOf : D → List D
  | .agg cs => cs
  | d => [d]
def notTup : D → Bool
  | .tup _ => false
  | _ => true
def toE : D → Option E
  | .e x => some x
  | .osl _ _ _ es => some (.sl es)
  | .iface t (.e x) => some (.iface t x)
  | _ => none
def toEs : List D → Option (List E)
  | [] => some []
  | d :: ds => match toE d, toEs ds with
    | some x, some xs => some (x :: xs)
    | _, _ => none
def szOf (t : TypeId) : Option Nat := (P.info? t).map (·.size)
def Zm6 (t : TypeId) : Option Nat := (P.info? t).map (·.bytes)
def aggT (t : TypeId) : Option Bool :=
  match P.underlying t with
  | some (.struct _) => some true
  | some (.array _ _) => some true
  | some _ => some false
  | none => none
def Zhb (t : TypeId) : Option D :=
  match P.info? t with
  | some i => i.zero.bind ofV
  | none => none
def Zw3 (t : TypeId) : Option TypeId :=
  match P.underlying t with
  | some (.slice e) => some e
  | _ => none
def Zyl (t : TypeId) (cs : List D) (off : Nat) : Option D :=
  match aggT P t with
  | some true => (szOf P t).map fun n => .agg ((cs.drop off).take n)
  | some false => cs[off]?
  | none => none
def St.put (s : St) (dst : Option Tmp) (d : D) : St :=
  match dst with
  | some t => { s with t := s.t.set t d }
  | none => s
def rd (s : St) : Operand → Option D
  | .tmp t => some (s.t.getD t Zaw)
  | .const v => ofV v
  | .func f => some (.func (.func f) [] [])
  | .global _ => none
def own0 : D → Bool
  | .osl ex fu _ _ => ex || !fu
  | _ => false
def ownA : D → Bool
  | .agg cs => cs.any own0
  | d => own0 d
def ownD : D → Bool
  | .tup vs => vs.any ownA
  | d => ownA d
def tk (s : St) (x : Operand) : Option (D × St) :=
  match x with
  | .tmp t =>
    let d := s.t.getD t Zaw
    if ownD d then some (d, { s with t := s.t.set t (Zlo d) }) else some (d, s)
  | x => (rd s x).map fun d => (d, s)
def sh (s : St) (x : Operand) : Option (D × St) :=
  match x with
  | .tmp t =>
    let d := s.t.getD t Zaw
    if ownD d then (match d with | .tup _ => none | _ => some (shr d, { s with t := s.t.set t (kep d) })) else some (d, s)
  | x => (rd s x).map fun d => (d, s)
def tks (s : St) : List Operand → Option (List D × St)
  | [] => some ([], s)
  | x :: xs => match tk s x with
    | some (d, s1) => match tks s1 xs with
      | some (ds, s2) => some (d :: ds, s2)
      | none => none
    | none => none
def shs (s : St) : List Operand → Option (List D × St)
  | [] => some ([], s)
  | x :: xs => match sh s x with
    | some (d, s1) => match shs s1 xs with
      | some (ds, s2) => some (d :: ds, s2)
      | none => none
    | none => none
def Zdj (t : Tmp) : Operand → Bool
  | .tmp u => u == t
  | _ => false
def Zbi (t : Tmp) (o : Oper) : Bool :=
  match o.op with
  | .assign x => Zdj t x
  | .store _ _ x => Zdj t x
  | .box _ x => Zdj t x
  | .extract x _ => Zdj t x
  | .build _ ps => ps.any fun p => Zdj t p.2
  | .call c => match c.callee with
    | .builtin .append => match c.args[0]? with
      | some x => Zdj t x
      | none => false
    | _ => false
  | _ => false
def taken (rest : List Oper) : Option Tmp → Bool
  | some t => rest.any (Zbi t)
  | none => false
def back (rest : List Oper) (x : Operand) : Bool :=
  match x with
  | .tmp t => rest.any fun o => match o.op with
    | .store _ a _ => Zdj t a
    | _ => false
  | _ => false
inductive Ad where
  | ob (i off : Nat)
  | ro (cs : List E) (off : Nat)
def adOf : D → Option Ad
  | .ptr i off => some (.ob i off)
  | .rptr cs off => some (.ro cs off)
  | _ => none
def adD : Ad → D
  | .ob i off => .ptr i off
  | .ro cs off => .rptr cs off
def Ad.add : Ad → Nat → Ad
  | .ob i off, n => .ob i (off + n)
  | .ro cs off, n => .ro cs (off + n)
def Zbn (h : List O) (i : Nat) : Option (List D) :=
  match h[i]? with
  | some (.cells cs) => some cs
  | _ => none
def Zfg (cs : List D) (off : Nat) (new : List D) : List D := cs.take off ++ new ++ cs.drop (off + new.length)
def Zn3 (s : St) (t : TypeId) (a : Ad) (take : Bool) : Option (D × St) :=
  match szOf P t, aggT P t with
  | some n, some ag =>
    match a with
    | .ro cs off =>
      if off + n ≤ cs.length then
        match ag with
        | true => some (.agg (((cs.drop off).take n).map .e), s)
        | false => match cs[off]? with
          | some x => some (.e x, s)
          | none => none
      else none
    | .ob i off =>
      match Zbn s.h i with
      | some cs =>
        if off + n ≤ cs.length then
          match ag with
          | true =>
            let ds := (cs.drop off).take n
            if ds.any own0 then
              some (.agg (if take then ds else ds.map shr0), { s with h := s.h.set i (.cells (Zfg cs off (ds.map (if take then Zh7 else kep0)))) })
            else some (.agg ds, s)
          | false => match cs[off]? with
            | some d =>
              if own0 d then
                some (if take then d else shr0 d, { s with h := s.h.set i (.cells (Zfg cs off [(if take then Zh7 d else kep0 d)])) })
              else some (d, s)
            | none => none
        else none
      | none => none
  | _, _ => none
def Zwj (s : St) (t : TypeId) (a : Ad) (d : D) : Option St :=
  match szOf P t with
  | some n =>
    if (cellsOf d).length = n ∧ notTup d = true then
      match a with
      | .ob i off =>
        match Zbn s.h i with
        | some cs => if off + n ≤ cs.length then some { s with h := s.h.set i (.cells (Zfg cs off (cellsOf d))) } else none
        | none => none
      | .ro _ _ => none
    else none
  | none => none
def Ziu (op : BinOp) (k : IntKind) (a b : Int) : Option D :=
  match op with
  | .add => some (.int k (k.wrap (a + b)))
  | .sub => some (.int k (k.wrap (a - b)))
  | .mul => some (.int k (k.wrap (a * b)))
  | .quo => if b = 0 then none else some (.int k (k.wrap (a.tdiv b)))
  | .rem => if b = 0 then none else some (.int k (a.tmod b))
  | .and => some (.int k (k.wrap (BitVec.ofInt k.bits a &&& BitVec.ofInt k.bits b).toNat))
  | .or => some (.int k (k.wrap (BitVec.ofInt k.bits a ||| BitVec.ofInt k.bits b).toNat))
  | .xor => some (.int k (k.wrap (BitVec.ofInt k.bits a ^^^ BitVec.ofInt k.bits b).toNat))
  | .andNot => some (.int k (k.wrap (BitVec.ofInt k.bits a &&& ~~~ BitVec.ofInt k.bits b).toNat))
  | .eql => some (.bool (a == b))
  | .neq => some (.bool (a != b))
  | .lss => some (.bool (decide (a < b)))
  | .leq => some (.bool (decide (a ≤ b)))
  | .gtr => some (.bool (decide (a > b)))
  | .geq => some (.bool (decide (a ≥ b)))
  | _ => none
def Zom (op : BinOp) (k : IntKind) (a b : Int) : Option D :=
  if b < 0 then none else
  match op with
  | .shl => some (.int k (k.wrap (a * 2 ^ (min b.toNat k.bits))))
  | .shr => some (.int k (a.fdiv (2 ^ (min b.toNat k.bits))))
  | _ => none
def strD (op : BinOp) (a b : ByteArray) : Option D :=
  match op with
  | .add => if (a.size + b.size : Nat) ≤ 4611686018427387904 then some (.str (a ++ b)) else none
  | .eql => some (.bool (a == b))
  | .neq => some (.bool (!(a == b)))
  | .lss => some (.bool (Op.bytesLess a.toList b.toList))
  | .leq => some (.bool (Op.bytesLess a.toList b.toList || a == b))
  | .gtr => some (.bool (!(Op.bytesLess a.toList b.toList || a == b)))
  | .geq => some (.bool (!Op.bytesLess a.toList b.toList))
  | _ => none
def eqB : D → D → Option Bool
  | .e (.bool a), .e (.bool b) => some (a == b)
  | _, _ => none
def eqI : D → D → Option Bool
  | .e (.int k a), .e (.int k' b) => if k = k' then some (a == b) else none
  | _, _ => none
def eqS : D → D → Option Bool
  | .e (.str a), .e (.str b) => some (a == b)
  | _, _ => none
def aggs : D → Option (List D)
  | .agg cs => if cs.any own0 then none else some cs
  | _ => none
def eqT : Nat → TypeId → D → D → Option Bool
  | 0, _, _, _ => none
  | n + 1, t, x, y =>
    match P.underlying t with
    | some .bool => eqB x y
    | some (.int _) => eqI x y
    | some .string => eqS x y
    | some (.struct fs) => if P.stoodInHeld t then none else
      match aggs x, aggs y with
      | some xs, some ys => eqF n fs.toList xs ys
      | _, _ => none
    | _ => none
where eqF (n : Nat) : List Field → List D → List D → Option Bool
  | [], _, _ => some true
  | f :: fs, xs, ys =>
    if f.name = "_" then none else
    match Zyl P f.type xs f.offset, Zyl P f.type ys f.offset with
    | some a, some b =>
      match eqT n f.type a b, eqF n fs xs ys with
      | some p, some q => some (p && q)
      | _, _ => none
    | _, _ => none
def slOf : D → Option (List (List E))
  | .e (.sl es) => some es
  | .osl _ _ _ es => some es
  | _ => none
def Zmi (t : TypeId) (x y : D) : Option Bool :=
  match P.underlying t, x, y with
  | some (.pointer _), .e .nilptr, .e .nilptr => some true
  | some (.pointer _), .ptr _ _, .e .nilptr => some false
  | some (.pointer _), .rptr _ _, .e .nilptr => some false
  | some (.func _ _ _), .e .nilfn, .e .nilfn => some true
  | some (.func _ _ _), .func _ _ _, .e .nilfn => some false
  | some (.map _ _), .e .nilmap, .e .nilmap => some true
  | some (.map _ _), .map _, .e .nilmap => some false
  | some (.interface _), .e .nilif, .e .nilif => some true
  | some (.interface _), .e (.iface _ _), .e .nilif => some false
  | some (.interface _), .iface _ _, .e .nilif => some false
  | some (.slice _), x, .osl false true 0 [] => match slOf x with
    | some (_ :: _) => some false
    | _ => none
  | _, _, _ => none
def binD (op : BinOp) (t : TypeId) (x y : D) (yc : Bool) : Option D :=
  match op, x, y with
  | .shl, .e (.int k a), .e (.int _ b) => Zom .shl k a b
  | .shr, .e (.int k a), .e (.int _ b) => Zom .shr k a b
  | op, .e (.int k a), .e (.int k' b) => if k = k' then Ziu op k a b else none
  | op, .e (.str a), .e (.str b) => strD op a b
  | .eql, .e (.bool a), .e (.bool b) => (eqT P 100 t (.e (.bool a)) (.e (.bool b))).map .bool
  | .neq, .e (.bool a), .e (.bool b) => (eqT P 100 t (.e (.bool a)) (.e (.bool b))).map fun b => .bool (!b)
  | .eql, .agg xs, .agg ys => if P.eqGuardType P.depth t then none else (eqT P 100 t (.agg xs) (.agg ys)).map .bool
  | .neq, .agg xs, .agg ys => if P.eqGuardType P.depth t then none else (eqT P 100 t (.agg xs) (.agg ys)).map fun b => .bool (!b)
  | .eql, x, y => if yc then (Zmi P t x y).map .bool else none
  | .neq, x, y => if yc then (Zmi P t x y).map fun b => .bool (!b) else none
  | _, _, _ => none
def unD (op : UnOp) (x : D) : Option D :=
  match op, x with
  | .neg, .e (.int k n) => some (.int k (k.wrap (0 - n)))
  | .xor, .e (.int k n) => some (.int k (k.wrap (BitVec.ofInt k.bits (if k.signed then -1 else k.max) ^^^ BitVec.ofInt k.bits n).toNat))
  | .not, .e (.bool b) => some (.bool (!b))
  | _, _ => none
def byteE (b : UInt8) : List E := [.int .u8 b.toNat]
def strE (s : ByteArray) : List (List E) := s.toList.map byteE
def Zs1 : List E → Option UInt8
  | [.int .u8 n] => some (UInt8.ofNat n.toNat)
  | _ => none
def Zi7 : List (List E) → Option (List UInt8)
  | [] => some []
  | x :: xs => match Zs1 x, Zi7 xs with
    | some b, some bs => some (b :: bs)
    | _, _ => none
def Zw6 (src dst : TypeId) (x : D) : Option D :=
  match P.underlying src, P.underlying dst, x with
  | some (.int _), some (.int k), .e (.int _ n) => some (.int k (k.wrap n))
  | some .string, some .string, .e (.str s) => some (.str s)
  | some .string, some (.slice e), .e (.str s) =>
    match P.underlying e with
    | some (.int .u8) => if s.size ≤ 4294967296 then some (.osl true false 1 (strE s)) else none
    | _ => none
  | some (.slice e), some .string, x =>
    match P.underlying e, slOf x with
    | some (.int .u8), some es => (Zi7 es).map fun bs => .str ⟨bs.toArray⟩
    | _, _ => none
  | _, _, _ => none
def Zkt (place : Nat → Option (Nat × Nat)) (cells : List D) : List (Nat × D) → Option (List D)
  | [] => some cells
  | (i, d) :: rest =>
    match place i with
    | some (off, size) => if (cellsOf d).length = size ∧ off + size ≤ cells.length ∧ notTup d = true then Zkt place (Zfg cells off (cellsOf d)) rest else none
    | none => none
def Zm7 (t : TypeId) (parts : List (Nat × D)) : Option D :=
  match Zhb P t, P.underlying t with
  | some (.agg z), some (.struct fs) =>
    if fs.toList.all (fun f => (szOf P f.type).isSome) then (Zkt (fun i => (fs[i]?).bind fun f => (szOf P f.type).map fun n => (f.offset, n)) z parts).map .agg else none
  | some (.agg z), some (.array _ e) =>
    match szOf P e with
    | some n => (Zkt (fun i => some (i * n, n)) z parts).map .agg
    | none => none
  | _, _ => none
def Zpd (n : Nat) : Nat → List D → List (List D)
  | 0, _ => []
  | k + 1, l => l.take n :: Zpd n k (l.drop n)
def Zoy : List (List D) → Option (List (List E))
  | [] => some []
  | r :: rs => match toEs r, Zoy rs with
    | some x, some xs => some (x :: xs)
    | _, _ => none
def Zf3 (t : TypeId) : Option (List D) := (Zhb P t).bind fun z => if notTup z = true then some (cellsOf z) else none
def Zoj (z : List D) : Nat → List D
  | 0 => []
  | n + 1 => z ++ Zoj z n
def Zef (t : TypeId) (n : Nat) (parts : List (Nat × D)) : Option D :=
  match Zw3 P t with
  | some e =>
    match szOf P e, Zf3 P e with
    | some sz, some z =>
      if z.length = sz ∧ 0 < sz ∧ n * sz ≤ 16777216 then
        match Zkt (fun i => some (i * sz, sz)) (Zoj z n) parts with
        | some cs => (Zoy (Zpd sz n cs)).map fun es => .osl true true sz es
        | none => none
      else none
    | _, _ => none
  | none => none
def Zu3 (t : TypeId) (l c : D) : Option D :=
  match Zw3 P t, l, c with
  | some e, .e (.int _ l), .e (.int _ c) =>
    match szOf P e, Zm6 P e, Zf3 P e with
    | some sz, some by_, some z =>
      if z.length = sz ∧ 0 < sz ∧ 0 ≤ l ∧ l ≤ c ∧ c ≤ 4294967296 ∧ by_ ≤ 16384 then
        match toEs z with
        | some r => some (.osl true (decide (l = c)) sz (List.replicate l.toNat r))
        | none => none
      else none
    | _, _, _ => none
  | _, _, _ => none
def Zlm (sz : Nat) (es : List (List E)) : Bool := es.all fun r => r.length == sz
def Zfz (t : TypeId) (s : D) (x : D) (str : Bool) : Option D :=
  match Zw3 P t with
  | some e =>
    match szOf P e, Zm6 P e, Zf3 P e, (match x with | .e (.str b) => if str then some (strE b) else none | x => if str then none else slOf x) with
    | some sz, some by_, some z, some xs =>
      if z.length = sz ∧ 0 < sz ∧ by_ ≤ 16384 ∧ Zlm sz xs = true then
        match s with
        | .osl ex fu sz' es =>
          if es.length + xs.length ≤ 1073741824 ∧ (sz' = sz ∨ (fu = true ∧ es.isEmpty = true)) then some (.osl (ex || es.isEmpty) false sz (es ++ xs)) else none
        | _ => none
      else none
    | _, _, _, _ => none
  | none => none
def bnd (d : D) (y : Nat) : Option Nat :=
  match d with
  | .e (.int _ i) => if 0 ≤ i ∧ i ≤ y then some i.toNat else none
  | _ => none
def bndO (d : Option D) (dflt y : Nat) : Option Nat :=
  match d with
  | some d => bnd d y
  | none => some dflt
def Zkv (t : TypeId) (x : D) (lo hi mx : Option D) : Option D :=
  match P.underlying t, x with
  | some .string, .e (.str s) =>
    if mx.isSome then none else
    match bndO hi s.size s.size with
    | some h => match bndO lo 0 h with
      | some l => some (.str (s.extract l h))
      | none => none
    | none => none
  | some (.slice e), x =>
    match szOf P e, slOf x with
    | some sz, some es =>
      if Zlm sz es && decide (0 < sz) then
        match mx with
        | none =>
          match bndO hi es.length es.length with
          | some h => match bndO lo 0 h with
            | some l => some (.e (.sl ((es.take h).drop l)))
            | none => none
          | none => none
        | some m =>
          match bnd m es.length with
          | some m => match hi.bind fun v => bnd v m with
            | some h => match bndO lo 0 h with
              | some l => if h = m then some (.osl false true sz ((es.take h).drop l)) else some (.e (.sl ((es.take h).drop l)))
              | none => none
            | none => none
          | none => none
      else none
    | _, _ => none
  | _, _ => none
def Zlv (t : TypeId) : Option (List Field) :=
  match P.underlying t with
  | some (.struct fs) => some fs.toList
  | _ => none
def Zaa (t : TypeId) (x : D) (f : Nat) : Option D :=
  match Zlv P t, adOf x with
  | some fs, some a =>
    match fs[f]? with
    | some f => match szOf P f.type with
      | some n => if n = 0 then none else some (adD (a.add f.offset))
      | none => none
    | none => none
  | _, _ => none
def Zeh (t : TypeId) (x ix : D) : Option D :=
  match P.underlying t, ix with
  | some (.array n e), .e (.int _ i) =>
    match szOf P e, adOf x with
    | some sz, some a => if 0 ≤ i ∧ i < n ∧ 0 < sz then some (adD (a.add (i.toNat * sz))) else none
    | _, _ => none
  | some (.slice e), .e (.int _ i) =>
    match szOf P e with
    | some sz =>
      match x with
      | .asl k off len => if 0 ≤ i ∧ i < len ∧ 0 < sz then some (.ptr k (off + i.toNat * sz)) else none
      | x => match slOf x with
        | some es =>
          if 0 ≤ i then
            match es[i.toNat]? with
            | some r => if r.length = sz ∧ 0 < sz then some (.rptr r 0) else none
            | none => none
          else none
        | none => none
    | none => none
  | _, _ => none
def indexD (t : TypeId) (x ix : D) : Option D :=
  match P.underlying t, x, ix with
  | some .string, .e (.str s), .e (.int _ i) =>
    if 0 ≤ i then (match s[i.toNat]? with | some b => some (.int .u8 b.toNat) | none => none) else none
  | some (.array n e), .agg cs, .e (.int _ i) =>
    match szOf P e with
    | some sz => if 0 ≤ i ∧ i < n then Zyl P e cs (i.toNat * sz) else none
    | none => none
  | _, _, _ => none
def Zyv : E → E → Option Bool
  | .bool a, .bool b => some (a == b)
  | .int k a, .int k' b => if k = k' then some (a == b) else none
  | .str a, .str b => some (a == b)
  | _, _ => none
def Zqz (k : E) : List (E × D) → Option (Option D)
  | [] => some none
  | (k', d) :: es => match Zyv k k' with
    | some true => some (some d)
    | some false => Zqz k es
    | none => none
def Zyr (h : List O) (m : D) : Option (List (E × D)) :=
  match m with
  | .e .nilmap => some []
  | .map i => match h[i]? with
    | some (.map es) => some es
    | _ => none
  | _ => none
def Zu2 (h : List O) (m : D) (k : E) : Option (Option D) :=
  match Zyr h m with
  | some es => Zqz k es
  | none => none
def setD (k : E) (v : D) : List (E × D) → Option (List (E × D))
  | [] => some [(k, v)]
  | (k', d) :: es => match Zyv k k' with
    | some true => some ((k, v) :: es)
    | some false => (setD k v es).map ((k', d) :: ·)
    | none => none
def mapT (t : TypeId) : Option (TypeId × TypeId) :=
  match P.underlying t with
  | some (.map k e) => some (k, e)
  | _ => none
def Znx (k : TypeId) (x : E) : Bool :=
  match P.underlying k, x with
  | some .bool, .bool _ => true
  | some (.int j), .int j' _ => j == j'
  | some .string, .str _ => true
  | _, _ => false
def Zkx : D → Bool
  | .e _ => true
  | .func _ _ _ => true
  | .ptr _ _ => true
  | _ => false
def Zk4 : TypeDesc → Bool
  | .interface _ => true
  | _ => false
def len0 (t : TypeId) (x : D) (h : List O) : Option Nat :=
  match P.underlying t, x with
  | some .string, .e (.str s) => some s.size
  | some (.array n _), _ => some n
  | some (.slice _), .e (.sl es) => some es.length
  | some (.slice _), .osl _ _ _ es => some es.length
  | some (.slice _), .hdr n => some n
  | some (.slice _), .asl _ _ n => some n
  | some (.map _ _), .e .nilmap => some 0
  | some (.map _ _), .map i => match h[i]? with
    | some (.map es) => some es.length
    | _ => none
  | _, _ => none
def min2 : D → D → Option D
  | .e (.int k a), .e (.int k' b) => if k = k' then some (.int k (if b < a then b else a)) else none
  | _, _ => none
def max2 : D → D → Option D
  | .e (.int k a), .e (.int k' b) => if k = k' then some (.int k (if b > a then b else a)) else none
  | _, _ => none
def optO (s : St) : Option Operand → Option (Option D)
  | none => some none
  | some x => (rd s x).map some
def Zge (b : Builtin) (ats : Array TypeId) (args : List Operand) (s : St) : Option (Out × St) :=
  match b, args with
  | .len, [x] => match rd s x, ats[0]? with
    | some d, some t => (len0 P t d s.h).map fun n => (.val (.int .i64 n), s)
    | _, _ => none
  | .append, [x, y] => match tk s x, ats[0]?, ats[1]? with
    | some (d, s1), some t, some ty =>
      match (match P.underlying ty with | some .string => some true | some (.slice _) => some false | _ => none) with
      | some str => match sh s1 y with
        | some (v, s2) => (Zfz P t d v str).map fun r => (.val r, s2)
        | none => none
      | none => none
    | _, _, _ => none
  | .min, [x, y] => match rd s x, rd s y with
    | some a, some b => (min2 a b).map fun r => (.val r, s)
    | _, _ => none
  | .max, [x, y] => match rd s x, rd s y with
    | some a, some b => (max2 a b).map fun r => (.val r, s)
    | _, _ => none
  | .panic, [x] => match rd s x with
    | some (.iface t d) => some (.pan (.iface t d), s)
    | some (.e (.iface t d)) => some (.pan (.e (.iface t d)), s)
    | _ => none
  | .recover, [] => match s.r with
    | .avail d => some (.val d, { s with r := .took })
    | .took => some (.val (.e .nilif), s)
    | .nil => some (.val (.e .nilif), s)
    | .no => none
    | .rnd _ => none
  | _, _ => none
def exOp (rest : List Oper) (o : Oper) (s : St) : Option (Out × St) :=
  match o.op with
  | .move x => (if taken rest o.dst then tk s x else sh s x).map fun r => (.val r.1, r.2)
  | .assign x => (tk s x).map fun r => (.val r.1, r.2)
  | .pick c a b => match rd s c with
    | some (.e (.bool t)) => (sh s (if t then a else b)).map fun r => (.val r.1, r.2)
    | _ => none
  | .alloc t => match Zhb P t with
    | some z => if notTup z then some (.val (.ptr s.h.length 0), { s with h := s.h ++ [.cells (cellsOf z)] }) else none
    | none => none
  | .box _ x => match tk s x with
    | some (d, s1) => if notTup d then some (.val (.ptr s1.h.length 0), { s1 with h := s1.h ++ [.cells (cellsOf d)] }) else none
    | none => none
  | .build t ps => match tks s (ps.toList.map (·.2)) with
    | some (ds, s1) => (Zm7 P t ((ps.toList.map (·.1)).zip ds)).map fun d => (.val d, s1)
    | none => none
  | .buildSlice t n ps => match shs s (ps.toList.map (·.2)) with
    | some (ds, s1) => (Zef P t n ((ps.toList.map (·.1)).zip ds)).map fun d => (.val d, s1)
    | none => none
  | .load t a => match (rd s a).bind adOf with
    | some ad => (Zn3 P s t ad (taken rest o.dst || back rest a)).map fun r => (.val r.1, r.2)
    | none => none
  | .store t a x => match (rd s a).bind adOf, tk s x with
    | some ad, some (d, s1) => (Zwj P s1 t ad d).map fun s2 => (.val Zaw, s2)
    | _, _ => none
  | .nilCheck x => match rd s x with
    | some d => match d with
      | .ptr _ _ | .rptr _ _ | .func (.func _) _ _ | .func (.yield _) _ _ => some (.val d, s)
      | _ => none
    | none => none
  | .binOp op t x y _ => match rd s x, rd s y with
    | some a, some b => (binD P op t a b (Region.isConst y)).map fun d => (.val d, s)
    | _, _ => none
  | .unOp op _ x => match rd s x with
    | some a => (unD op a).map fun d => (.val d, s)
    | none => none
  | .convert src dst x => match sh s x with
    | some (a, s1) => (Zw6 P src dst a).map fun d => (.val d, s1)
    | none => none
  | .makeInterface t x => match sh s x, P.underlying t with
    | some (d, s1), some u => if Zk4 u then none else (match d with | .e v => some (.val (.e (.iface t v)), s1) | d => some (.val (.iface t d), s1))
    | _, _ => none
  | .makeFunc fn first cap => match shs s first.toList with
    | some (ds, s1) => match shs s1 cap.toList with
      | some (cs, s2) => (match fn with | .func f => some (.val (.func (.func f) ds cs), s2) | _ => none)
      | none => none
    | none => none
  | .makeMap _ none => some (.val (.map s.h.length), { s with h := s.h ++ [.map []] })
  | .makeSlice t l c => match rd s l, rd s c with
    | some l, some c => (Zu3 P t l c).map fun d => (.val d, s)
    | _, _ => none
  | .slice t x lo hi mx => match sh s x with
    | some (d, s1) => match optO s1 lo, optO s1 hi, optO s1 mx with
      | some lo, some hi, some mx => (Zkv P t d lo hi mx).map fun d => (.val d, s1)
      | _, _, _ => none
    | none => none
  | .fieldAddr t x f => match rd s x with
    | some d => (Zaa P t d f).map fun d => (.val d, s)
    | none => none
  | .field t x f => match Zlv P t, sh s x with
    | some fs, some (.agg cs, s1) => match fs[f]? with
      | some f => (Zyl P f.type cs f.offset).map fun d => (.val d, s1)
      | none => none
    | _, _ => none
  | .indexAddr t x ix => match sh s x with
    | some (d, s1) => match rd s1 ix with
      | some i => (Zeh P t d i).map fun d => (.val d, s1)
      | none => none
    | none => none
  | .index t x ix => match sh s x with
    | some (d, s1) => match rd s1 ix with
      | some i => (indexD P t d i).map fun d => (.val d, s1)
      | none => none
    | none => none
  | .lookup t x ix ok => match mapT P t, rd s x, rd s ix with
    | some (kt, et), some m, some (.e k) =>
      if Znx P kt k then
        match Zu2 s.h m k with
        | some (some d) => some (.val (if ok then .tup [d, .bool true] else d), s)
        | some none => (Zhb P et).map fun z => (.val (if ok then .tup [z, .bool false] else z), s)
        | none => none
      else none
    | _, _, _ => none
  | .mapUpdate t m k x | .insert t m k x => match mapT P t, rd s m, rd s k, sh s x with
    | some (kt, _), some (.map i), some (.e k), some (v, s1) =>
      if Znx P kt k && Zkx v then
        match s1.h[i]? with
        | some (.map es) => (setD k v es).map fun es' => (.val Zaw, { s1 with h := s1.h.set i (.map es') })
        | _ => none
      else none
    | _, _, _, _ => none
  | .typeAssert x _ t ok => match rd s x, P.underlying t with
    | some d, some u => if Zk4 u then none else
      match d with
        | .e (.iface t' v) => if t' = t then some (.val (if ok then .tup [.e v, .bool true] else .e v), s)
          else if ok then (Zhb P t).map fun z => (.val (.tup [z, .bool false]), s) else none
        | .e .nilif => if ok then (Zhb P t).map fun z => (.val (.tup [z, .bool false]), s) else none
        | _ => none
    | _, _ => none
  | .extract x i => match x with
    | .tmp t => match s.t[t]? with
      | some (.tup vs) => match vs[i]? with
        | some d => if ownD d then (if notTup d then some (.val d, { s with t := s.t.set t (.tup (vs.set i (left d))) }) else none) else some (.val d, s)
        | none => none
      | _ => none
    | _ => none
  | .call c => match c.callee with
    | .builtin b => Zge P b c.argTypes c.args.toList s
    | _ => none
  | .defer c => match c.callee with
    | .value f => match s.r with
      | .rnd _ => none
      | _ => match rd s f, shs s c.args.toList with
        | some (.func (.func g) first cap), some (ds, s1) => if (first ++ cap).any ownD then none else some (.val Zaw, { s1 with d := (g, first ++ ds ++ cap) :: s1.d })
        | _, _ => none
    | _ => none
  | .panic x => match rd s x with
    | some (.iface t d) => some (.pan (.iface t d), s)
    | some (.e (.iface t d)) => some (.pan (.e (.iface t d)), s)
    | _ => none
  | _ => none
def want (all : Array Oper) (o : Oper) (s : St) : Bool :=
  match o.guard with
  | none => true
  | some (j, b) => match (all[j]?).bind (·.dst) with
    | some t => (match s.t[t]? with | some (.e (.bool c)) => c == b | _ => false)
    | none => false
def Zlu (ds : List D) : Bool := ds.all fun d => !ownD d
inductive Kind where
  | other
  | go (g : Tgt) (args : List D) (s : St)
  | bad
def Zfy (o : Oper) (s : St) : Kind :=
  match o.op with
  | .call c => match c.callee with
    | .value f => match rd s f, tks s c.args.toList with
      | some (.func (.func g) first cap), some (ds, s1) => if Zlu first && Zlu cap then .go (.fn g) (first ++ ds ++ cap) s1 else .bad
      | some (.func (.yield l) [] []), some (ds, s1) => .go (.round l) ds s1
      | _, _ => .bad
    | .invoke _ _ => .bad
    | .builtin _ => .other
  | _ => .other
def heavy (o : Op) : Bool :=
  match o with
  | .store _ _ _ | .box _ _ | .alloc _ | .makeMap _ _ | .mapUpdate _ _ _ _ | .insert _ _ _ _ | .assign _ | .defer _ | .panic _ => true
  | .call c => match c.callee with
    | .builtin .len => false
    | .builtin .cap => false
    | .builtin .min => false
    | .builtin .max => false
    | _ => true
  | _ => false
def Zmg (o : Op) : Bool :=
  match o with
  | .load _ _ | .lookup _ _ _ _ => true
  | .call c => match c.callee with
    | .builtin .len => true
    | _ => false
  | _ => false
def Zyp : Operand → Option Tmp
  | .tmp t => some t
  | _ => none
def Zix (ops : Array Oper) (o : Oper) : List Tmp :=
  o.dst.toList ++ (o.op.operands.toList.filterMap Zyp) ++
    (match o.guard with | some (j, _) => ((ops[j]?).bind (·.dst)).toList | none => [])
structure Todo where
  i : Nat
  hv : Bool
  rds : Bool
  bf : Nat
  nm : List Tmp
  mv : List Tmp
def Zjo (ops : Array Oper) (o : Oper) : List Tmp :=
  (match o.op with
   | .move _ => []
   | op => op.operands.toList.filterMap Zyp) ++
    (match o.guard with | some (j, _) => ((ops[j]?).bind (·.dst)).toList | none => [])
def Zln (o : Oper) : List Tmp :=
  match o.op with
  | .move (.tmp t) => [t]
  | _ => []
def planOk (ops : Array Oper) : Bool :=
  let b := Region.before ops
  let l := ops.toList.zipIdx
  l.all fun (o, j) =>
    (o.after.all fun e => !Region.binds .any e || decide (e.on < j)) &&
    (match o.guard with | some (k, _) => decide (k < j) && (b.getD j 0).testBit k | none => true) &&
    l.all fun (p, i) => decide (j ≤ i) || (b.getD j 0).testBit i ||
      (!(heavy p.op && heavy o.op) &&
       (match p.dst with | some d => !(Zix ops o).contains d | none => true) &&
       (match o.dst with | some d => !(Zix ops p).contains d | none => true))
def Zo6 (ops : Array Oper) (i : Nat) : List Oper :=
  let b := Region.before ops
  (ops.toList.zipIdx.filter fun (_, k) => k != i && !(b.getD i 0).testBit k && !(b.getD k 0).testBit i).map (·.1)
def Zh4 (ops : Array Oper) : Option (List Todo) :=
  if planOk ops then
    let b := Region.before ops
    some (ops.toList.zipIdx.map fun (o, i) => { i := i, hv := heavy o.op, rds := Zmg o.op, bf := b.getD i 0, nm := if heavy o.op then (Zo6 ops i).flatMap (Zjo ops) else [], mv := if heavy o.op then (Zo6 ops i).flatMap Zln else [] })
  else none
def exc0 : D → Bool
  | .osl ex _ _ _ => ex
  | _ => false
def excD : D → Bool
  | .agg cs => cs.any exc0
  | .tup vs => ownD (.tup vs)
  | d => exc0 d
def Zym (s : St) : Operand → Bool
  | .tmp t => ownD (s.t.getD t Zaw)
  | _ => false
def Zee (o : Oper) (s : St) : Option D :=
  match o.op with
  | .move (.tmp t) => let d := s.t.getD t Zaw; if excD d then none else (match d with | .tup _ => some d | d => some (shr d))
  | .load t a => match (rd s a).bind adOf with
    | some ad => match ad, szOf P t, aggT P t with
      | .ro _ _, _, _ => (Zn3 P s t ad false).map (·.1)
      | .ob i off, some n, some ag => match Zbn s.h i with
        | some cs => if off + n ≤ cs.length then
            match ag with
            | true => let ds := (cs.drop off).take n; if ds.any exc0 then none else some (.agg (ds.map shr0))
            | false => match cs[off]? with
              | some d => if exc0 d then none else some (shr0 d)
              | none => none
          else none
        | none => none
      | _, _, _ => none
    | none => none
  | .move x => rd s x
  | .extract x i => match rd s x with
    | some (.tup vs) => match vs[i]? with
      | some d => if ownD d then none else some d
      | none => none
    | _ => none
  | op => if heavy op then none else
    if op.operands.toList.any (Zym s) then none else
    match exOp P [] o s with
    | some (.val d, _) => some d
    | _ => none
def Zh5 (ops : List Oper) (s : St) : St :=
  ops.foldl (fun s o => match o.op with | .move (.tmp t) => (match s.t.getD t Zaw with | .tup _ => s | d => { s with t := s.t.set t (kep d) }) | _ => s) s
structure Again where
  i : Nat
  o : Oper
  t : List D
  d : D
def rows (k : Nat) : Nat → List E → List (List E)
  | 0, _ => []
  | n + 1, xs => xs.take k :: rows k n (xs.drop k)
def Zia : List D → Option (List E)
  | [] => some []
  | .e x :: ds => (Zia ds).map (x :: ·)
  | _ => none
def Ztg (n : Nat) : D → Option (D × O)
  | .osl true _ _ (x :: es) => some (.asl n 0 (es.length + 1), .cells ((x :: es).flatten.map .e))
  | _ => none
def Zwl (h : List O) (i n : Nat) : Option D :=
  match Zbn h i with
  | some cs => match Zia cs with
    | some xs => if 0 < n ∧ n * (xs.length / n) = xs.length ∧ 0 < xs.length / n then some (.e (.sl (rows (xs.length / n) n xs))) else none
    | none => none
  | none => none
inductive Cv where
  | opn (t : Tmp)
  | opnC (t : Tmp)
  | shut (t : Tmp)
  | shutC (t : Tmp)
  | kp (t : Tmp)
  deriving Inhabited
def cv1 (s : St) : Cv → St
  | .opn t => match Ztg s.h.length (s.t.getD t Zaw) with
    | some (d, o) => { s with t := s.t.set t d, h := s.h ++ [o] }
    | none => s
  | .opnC t => match s.t.getD t Zaw with
    | .ptr i off => match Zbn s.h i with
      | some cs => match cs[off]? with
        | some d0 => match Ztg s.h.length d0 with
          | some (d, o) => { s with h := s.h.set i (.cells (Zfg cs off [d])) ++ [o] }
          | none => s
        | none => s
      | none => s
    | _ => s
  | .shut t => match s.t.getD t Zaw with
    | .asl i 0 n => match Zwl s.h i n with
      | some d => { s with t := s.t.set t d, h := s.h.set i .dead }
      | none => s
    | _ => s
  | .shutC t => match s.t.getD t Zaw with
    | .ptr k off => match Zbn s.h k with
      | some cs => match cs[off]? with
        | some (.asl i 0 n) => if i = k then s else match Zwl s.h i n with
          | some d => { s with h := (s.h.set i .dead).set k (.cells (Zfg cs off [d])) }
          | none => s
        | _ => s
      | none => s
    | _ => s
  | .kp t => if ownD (s.t.getD t Zaw) && notTup (s.t.getD t Zaw) then { s with t := s.t.set t (kep (s.t.getD t Zaw)) } else s
def Zdn (l : List Cv) (s : St) : St := l.foldl cv1 s
end Go.Abs
namespace Go.Abs
variable (P : Program) (pr : FuncId → List D → Option D) (cv : FuncId → Nat → List Cv)
def Zhl (h : List O) (l : Nat) : Option (LoopState × Option Code × FuncId × List D × List Tmp × Code × Code) :=
  match h[l]? with
  | some (.loop st pd fn env ps asg body) => some (st, pd, fn, env, ps, asg, body)
  | _ => none
def Zo4 (fn : Func) : Option Code := if fn.name == "runtime.NumGoroutine" then none else fn.body
def okRnd (s : St) : Bool :=
  match s.r with
  | .rnd l => (Zhl s.h l).isSome
  | _ => true
inductive Fit (n : Nat) : D → Prop where
  | e (x : E) : Fit n (.e x)
  | osl (ex fu : Bool) (sz : Nat) (es : List (List E)) : Fit n (.osl ex fu sz es)
  | hdr (k : Nat) : Fit n (.hdr k)
  | ptr (i off : Nat) (h : i < n) : Fit n (.ptr i off)
  | rptr (cs : List E) (off : Nat) : Fit n (.rptr cs off)
  | asl (i off len : Nat) (h : i < n) : Fit n (.asl i off len)
  | map (i : Nat) (h : i < n) : Fit n (.map i)
  | func (f : FuncId) (ds cs : List D) (hd : ∀ d ∈ ds, Fit n d) (hc : ∀ d ∈ cs, Fit n d) : Fit n (.func (.func f) ds cs)
  | yield (l : Nat) (h : l < n) : Fit n (.func (.yield l) [] [])
  | iface (t : TypeId) (d : D) (h : Fit n d) : Fit n (.iface t d)
  | agg (cs : List D) (h : ∀ d ∈ cs, Fit n d) : Fit n (.agg cs)
  | tup (cs : List D) (h : ∀ d ∈ cs, Fit n d) : Fit n (.tup cs)
inductive FitO (n : Nat) : O → Prop where
  | cells (cs : List D) (h : ∀ d ∈ cs, Fit n d) : FitO n (.cells cs)
  | map (es : List (E × D)) (h : ∀ x ∈ es, Fit n x.2) : FitO n (.map es)
  | dead : FitO n .dead
inductive Alike : O → O → Prop where
  | refl (o : O) : Alike o o
  | loop (st st' : LoopState) (pd pd' : Option Code) (fn : FuncId) (env : List D) (ps : List Tmp) (asg body : Code) :
      Alike (.loop st pd fn env ps asg body) (.loop st' pd' fn env ps asg body)
def Keeps (n : Nat) (h h' : List O) : Prop :=
  n ≤ h'.length ∧ ∀ i, i < n → ∀ o o', h[i]? = some o → h'[i]? = some o' → Alike o o' ∨ FitO n o'
open Classical in
noncomputable def gc (n : Nat) (h h' : List O) (d : D) : List O :=
  if Fit n d ∧ Keeps n h h' then h'.take n else h'
def resD (s : St) : List ResultVar → Option (List D × St)
  | [] => some ([], s)
  | .tmp t :: rs => match tk s (.tmp t) with
    | some (d, s1) => match resD s1 rs with
      | some (ds, s2) => some (d :: ds, s2)
      | none => none
    | none => none
  | .cell a t :: rs => match adOf (s.t.getD a Zaw) with
    | some ad => match Zn3 P s t ad true with
      | some (d, s1) => match resD s1 rs with
        | some (ds, s2) => some (d :: ds, s2)
        | none => none
      | none => none
    | none => none
def tupD : List D → D
  | [d] => d
  | ds => .tup ds
noncomputable def Zqa (fn : Func) (h0 : List O) (u : Option D) (t : List D) (h : List O) : Option (Out × List O) :=
  match u with
  | none => match resD P { t := t, d := [], r := .no, h := h } fn.results.toList with
    | some (ds, s2) => some (.val (tupD ds), gc h0.length h0 s2.h (tupD ds))
    | none => none
  | some d => some (.pan d, gc h0.length h0 h d)
def Zlx (l : Nat) (jump : Option Code) (h : List O) : Option (Out × List O) :=
  match Zhl h l with
  | some (_, _, fn, env, ps, asg, body) =>
    some (.val (.bool jump.isNone), h.set l (.loop (if jump.isNone then .ready else .done) jump fn env ps asg body))
  | none => none
def Zl2 (l : Nat) (x : X) (s : St) : Option (Out × List O) :=
  match s.d with
  | [] => match x with
    | .nrm => Zlx l none s.h
    | .ret => Zlx l (some .ret) s.h
    | .ext id => Zlx l (some (.exit id)) s.h
    | .gto k => Zlx l (some (.goto k)) s.h
    | .pan d => some (.pan d, s.h)
  | _ => none
def Zld (l : Nat) (h : List O) : Option (List O) :=
  match Zhl h l with
  | some (st, pd, fn, env, ps, asg, body) => if st = .ready then some (h.set l (.loop .busy pd fn env ps asg body)) else none
  | none => none
noncomputable def Zqs (s : St) (r : Out × List O) : Option (X × St) :=
  match r.1 with
  | .val _ =>
    match Zhl r.2 s.h.length with
    | some (st, pd, _, _, _, _, _) =>
      if st = .busy then none else
      let s2 : St := { s with t := s.t.map kep, h := gc s.h.length s.h (r.2.set s.h.length .dead) Zaw }
      match pd with
      | none => some (.nrm, s2)
      | some .ret => some (.ret, s2)
      | some (.exit id) => some (.ext id, s2)
      | some (.goto k) => some (.gto k, s2)
      | _ => none
    | none => none
  | .pan d => some (.pan d, { s with t := s.t.map kep, h := r.2 })
  | .rcv _ => none
def Zue (x : X × St) : Option (Out × List O) :=
  match x.1, x.2.d with
  | .nrm, [] => (match x.2.r with | .took => some (.rcv Zaw, x.2.h) | _ => some (.val Zaw, x.2.h))
  | .ret, [] => (match x.2.r with | .took => some (.rcv Zaw, x.2.h) | _ => some (.val Zaw, x.2.h))
  | _, _ => none
def Zbj (fn : Func) (args : List D) : List D := args ++ List.replicate (fn.ntmps - args.length) Zaw
def wantT (x : X) : Option (Option D) :=
  match x with
  | .nrm => some none
  | .ret => some none
  | .pan d => some (some d)
  | _ => none
def Zjg (bf : Nat) (h : List O) (l : List Again) : Prop :=
  ∀ a ∈ l, bf.testBit a.i = false → Zee P a.o { t := a.t, d := [], r := .no, h := h } = some a.d
def Zjn (o : Oper) (bf : Nat) (t : List D) (d : D) (hs : List (Nat × List O)) : Prop :=
  ∀ x ∈ hs, bf.testBit x.1 = false → Zee P o { t := t, d := [], r := .no, h := x.2 } = some d
def Zo3 (td : Todo) (t : List D) : Bool := td.nm.all (fun x => !ownD (t.getD x Zaw)) && td.mv.all (fun x => !excD (t.getD x Zaw))
section
open Classical
mutual
noncomputable def exec (fn : FuncId) (c : Code) (s : St) : Option (X × St) :=
  match c with
  | .skip => some (.nrm, s)
  | .label _ => some (.nrm, s)
  | .region id ops draw => match draw with
    | false => Zqk ops ops.toList (Zdn (cv fn id) s)
    | true => match Zh4 ops with
      | some l => Zgu ops l [] [] (Zh5 ops.toList (Zdn (cv fn id) s))
      | none => none
  | .seq a b => do
    let r ← exec fn a s
    match r.1 with
    | .nrm => exec fn b r.2
    | x => some (x, r.2)
  | .cond c a b => match rd s c with
    | some (.e (.bool t)) => match t with
      | true => exec fn a s
      | false => exec fn b s
    | _ => none
  | .block id c => do
    let r ← exec fn c s
    match r.1 with
    | .ext i => if i = id then some (.nrm, r.2) else some (.ext i, r.2)
    | x => some (x, r.2)
  | .loop c => do
    let r ← exec fn c s
    match r.1 with
    | .nrm => exec fn (.loop c) r.2
    | x => some (x, r.2)
  | .scope c => Zt3 fn c c s
  | .rangeFunc f ps asg body => match (if okRnd s then rd s f else none) with
    | some (.func (.func g) first cap) => if Zlu first && Zlu cap then do
        let r ← call (.fn g) (first ++ [.func (.yield s.h.length) [] []] ++ cap) (s.h ++ [.loop .ready none fn (s.t.map shrT) ps.toList asg body])
        Zqs s r
      else none
    | _ => none
  | .exit id => some (.ext id, s)
  | .goto l => some (.gto l, s)
  | .ret => some (.ret, s)
  | .refuse _ => none
  partial_fixpoint
noncomputable def Zt3 (fn : FuncId) (body : Code) (c : Code) (s : St) : Option (X × St) := do
  let r ← exec fn c s
  match r.1 with
  | .gto l => match findLabel body l with
    | some rest => Zt3 fn body rest r.2
    | none => some (.gto l, r.2)
  | x => some (x, r.2)
  partial_fixpoint
noncomputable def Zqk (all : Array Oper) (l : List Oper) (s : St) : Option (X × St) :=
  match l with
  | [] => some (.nrm, s)
  | o :: rest =>
    if want all o s then
      match Zfy o s with
      | .bad => none
      | .go g args s1 => do
        let r ← call g args s1.h
        match r.1 with
        | .val d => Zqk all rest (({ s1 with h := r.2 } : St).put o.dst d)
        | .pan d => some (.pan d, { s1 with h := r.2 })
        | .rcv _ => none
      | .other => match exOp P rest o s with
        | some (.val d, s1) => Zqk all rest (s1.put o.dst d)
        | some (.pan d, s1) => some (.pan d, s1)
        | _ => none
    else Zqk all rest (s.put o.dst Zaw)
  partial_fixpoint
noncomputable def Zgu (all : Array Oper) (l : List Todo) (hs : List (Nat × List O)) (ag : List Again) (s : St) : Option (X × St) :=
  match l with
  | [] => some (.nrm, s)
  | td :: rest =>
    match all[td.i]? with
    | none => none
    | some o =>
      if want all o s then
        if td.hv then
          if Zo3 td s.t then
            match Zfy o s with
            | .bad => none
            | .go g args s1 => do
              let r ← call g args s1.h
              match r.1 with
              | .val d => if Zjg P td.bf r.2 ag then Zgu all rest ((td.i, s.h) :: hs) ag (({ s1 with h := r.2 } : St).put o.dst d) else none
              | .pan d => if s1.d = [] ∧ ∀ t ∈ rest, t.bf.testBit td.i = true then some (.pan d, { t := [], d := [], r := s1.r, h := r.2 }) else none
              | _ => none
            | .other => match exOp P [] o s with
              | some (.val d, s1) => if Zjg P td.bf s1.h ag then Zgu all rest ((td.i, s.h) :: hs) ag (s1.put o.dst d) else none
              | _ => none
          else none
        else
          match Zee P o s with
          | some d =>
            if td.rds then
              if Zjn P o td.bf s.t d hs then Zgu all rest hs ({ i := td.i, o := o, t := s.t, d := d } :: ag) (s.put o.dst d) else none
            else Zgu all rest hs ag (s.put o.dst d)
          | none => none
      else Zgu all rest hs ag (s.put o.dst Zaw)
  partial_fixpoint
noncomputable def undo (l : List (FuncId × List D)) (u : Option D) (h : List O) : Option (Option D × List O) :=
  match l with
  | [] => some (u, h)
  | (g, args) :: ds => do
    let r ← call (.dfn g u) args h
    match r.1 with
    | .val _ => undo ds u r.2
    | .rcv _ => undo ds none r.2
    | .pan _ => none
  partial_fixpoint
noncomputable def call (g : Tgt) (args : List D) (h : List O) : Option (Out × List O) :=
  match g with
  | .fn f => match pr f args with
    | some d => some (.val d, h)
    | none => match P.funcs[f]? with
      | some fn => match Zo4 fn with
        | some c => do
          let r ← exec f c { t := Zbj fn args, d := [], r := .no, h := h }
          match wantT r.1 with
          | some u => do
            let q ← undo r.2.d u r.2.h
            Zqa P fn h q.1 r.2.t q.2
          | none => none
        | none => none
      | none => none
  | .dfn f u => match P.funcs[f]? with
    | some fn => match Zo4 fn with
      | some c => if fn.results.isEmpty then do
          let r ← exec f c { t := Zbj fn args, d := [], r := (match u with | some d => .avail d | none => .nil), h := h }
          Zue r
        else none
      | none => none
    | none => none
  | .round l => match Zhl h l with
    | some (_, _, fn, env, ps, asg, body) =>
      if ps.length = args.length then do
        let r ← exec fn asg { t := (ps.zip args).foldl (fun t p => t.set p.1 p.2) env, d := [], r := .rnd l, h := h }
        match r.1, Zld l r.2.h with
        | .nrm, some h1 => do
          let q ← exec fn body { t := r.2.t, d := [], r := .rnd l, h := h1 }
          Zl2 l q.1 q.2
        | _, _ => none
      else none
    | none => none
  partial_fixpoint
end
end
end Go.Abs
