/-
  The small language that the abstract machine runs, its interpreter, and the translation of the model's code into it.
-/
import Derived.Test.YtkoloapgeilbdaaAbs
set_option linter.unusedVariables false
namespace Go.Proofs.Ytkoloapgeilbdaa

inductive Opd where
  | t (i : Nat) | k (v : V)

inductive I where
  | mov (x : Opd) | pick (c a b : Opd)
  | load1 (a : Opd) | loadN (a : Opd) (n : Nat)
  | fld (a : Opd) (off : Nat)
  | ixa (a i : Opd) (len esz : Nat) | ixs (s i : Opd) (esz : Nat)
  | ext (x : Opd) (k : Nat)
  | bin (op : BinOp) (x y : Opd) | binb (ne : Bool) (x y : Opd) | bins (op : BinOp) (x y : Opd) | un (op : UnOp) (x : Opd)
  | eqa (ne : Bool) (ks : List (Option IntKind)) (x y : Opd)
  | nil (ne : Bool) (x : Opd)
  | len (x : Opd) | lens (x : Opd)
  | sla (a : Opd) (n esz : Nat) (lo hi : Option Opd) | sls (s : Opd) (esz : Nat) (lo hi : Option Opd)
  | bld (z : List C) (parts : List (Nat × Nat × Opd))
  | prt (x : Opd) (off n : Nat) (ag : Bool)
  | mxi (lo : Bool) (x y : Opd)
  | idx (x i : Opd) (len n : Nat) (ag : Bool) | idxs (x i : Opd) | chk (x : Opd) | cvt (k : IntKind) (x : Opd) | shf (op : BinOp) (x y : Opd)
  | call (f : FuncId) (args : List Opd) | callv (x : Opd) (args : List Opd) | mkc (f : FuncId) (args : List Opd)
  | bad | clr (x : Opd) (z : C)
  | alloc (z : List C) (ty : TypeId) | box (x : Opd) (ty : TypeId)
  | store (a x : Opd) (n : Nat)
  | mks (n : Opd) (z : List C) (ty : TypeId) (bytes : Nat)
  | lit (n esz : Nat) (z : List C) (parts : List (Nat × Opd)) (ty : TypeId)
  | app (s x : Opd) (ty : TypeId) (esz bytes : Nat)

structure IOp where
  dst : Option Nat
  gd : Option (Nat × Bool)
  i : I

/-- An operation of an open region that makes or writes memory: its number there, its new block's place, whether it is a call on no memory, and which earlier ones it must not meet. -/
structure EOp where
  op : IOp
  ix : Nat
  p : Nat
  ml : Bool
  un : List Nat

inductive IC where
  | skip | reg (draw : Bool) (ops : List IOp) | regE (k : Nat) (ops : List EOp) | seq (a b : IC) | cond (c : Opd) (a b : IC)
  | block (id : Nat) (keep after : Option (List Nat)) (b : IC) | loop (b : IC) | exit (id : Nat) | ret (keep : Option (List Nat))

inductive IR where
  | t (i : Nat) | cell (i n : Nat) (ag : Bool)

structure IFn where
  nt : Nat
  res : List IR
  body : IC

/-! ### The interpreter -/
structure St where
  env : List (Nat × V)
  mem : List Blk
  esc : Nat
  wr : Nat

structure Ret where
  v : V
  mem : List Blk
  esc : Nat
  wr : Nat

inductive Ex where
  | norm | exit (id : Nat) | ret

def get : List (Nat × V) → Nat → V
  | [], _ => .c .junk
  | (j, v) :: r, i => if j = i then v else get r i

def Opd.ev (env : List (Nat × V)) : Opd → V
  | .t i => get env i
  | .k v => v

def V.int? : V → Option Int
  | .c (.int _ n) => some n
  | _ => none
def V.bool? : V → Option Bool
  | .c (.bool b) => some b
  | _ => none
/-- The cells of a value that may be stored: none of them is junk of unknown form. -/
def C.firm : C → Bool
  | .junk | .undef => false
  | _ => true
def V.cells? : V → Option (List C)
  | .c x => if x.firm then some [x] else none
  | .agg cs => some cs
  | .tup _ => none

def guard' {α : Type} (c : Prop) [Decidable c] (x : Option α) : Option α := if c then x else none

/-- A block, where a reference to it is not stale. -/
def live (m : List Blk) (b tot : Nat) : Option Blk := (m[b]?).bind fun blk => if tot = blk.cs.length then some blk else none

def binI (op : BinOp) (k : IntKind) (a b : Int) : Option V :=
  match op with
  | .add => some (.c (.int k (k.wrap (a + b))))
  | .sub => some (.c (.int k (k.wrap (a - b))))
  | .mul => some (.c (.int k (k.wrap (a * b))))
  | .quo => if b = 0 then none else some (.c (.int k (k.wrap (a.tdiv b))))
  | .rem => if b = 0 then none else some (.c (.int k (a.tmod b)))
  | .eql => some (.c (.bool (a == b)))
  | .neq => some (.c (.bool (a != b)))
  | .lss => some (.c (.bool (decide (a < b))))
  | .leq => some (.c (.bool (decide (a ≤ b))))
  | .gtr => some (.c (.bool (decide (a > b))))
  | .geq => some (.c (.bool (decide (a ≥ b))))
  | .and => some (.c (.int k (k.wrap (BitVec.ofInt k.bits a &&& BitVec.ofInt k.bits b).toNat)))
  | .or => some (.c (.int k (k.wrap (BitVec.ofInt k.bits a ||| BitVec.ofInt k.bits b).toNat)))
  | .xor => some (.c (.int k (k.wrap (BitVec.ofInt k.bits a ^^^ BitVec.ofInt k.bits b).toNat)))
  | _ => none

def bin' (op : BinOp) : V → V → Option V
  | .c (.int k a), .c (.int k' b) => if k = k' then binI op k a b else none
  | _, _ => none

def binS (op : BinOp) (a b : ByteArray) : Option V :=
  match op with
  | .add => if ((a.size + b.size : Nat) : Int) ≤ 140737488355328 then some (.c (.str (a ++ b))) else none
  | .eql => some (.c (.bool (a.toList == b.toList)))
  | .neq => some (.c (.bool (!(a.toList == b.toList))))
  | .lss => some (.c (.bool (Op.bytesLess a.toList b.toList)))
  | _ => none

def un' (op : UnOp) : V → Option V
  | .c (.bool a) => match op with | .not => some (.c (.bool (!a))) | _ => none
  | .c (.int k a) => match op with | .neg => some (.c (.int k (k.wrap (0 - a)))) | _ => none
  | _ => none

/-- Two flat lists of cells compared, the kinds told (none: a bool); none where one holds what isn't so. -/
def eqC : Option IntKind → C → C → Option Bool
  | some kd, .int k a, .int k' b => if k = kd ∧ k' = kd then some (a == b) else none
  | none, .bool a, .bool b => some (a == b)
  | _, _, _ => none
def eqL : List (Option IntKind) → List C → List C → Option Bool
  | [], [], [] => some true
  | k :: ks, a :: r, b :: s => (eqC k a b).bind fun t => (eqL ks r s).bind fun u => some (t && u)
  | _, _, _ => none

def lo' (env : List (Nat × V)) : Option Opd → Option Int
  | none => some 0
  | some x => (x.ev env).int?
def hi' (env : List (Nat × V)) (n : Nat) : Option Opd → Option Int
  | none => some n
  | some x => (x.ev env).int?

/-- Cells laid over others from a place on. -/
def lay (cs : List C) (off : Nat) (new : List C) : List C := cs.take off ++ new ++ cs.drop (off + new.length)
def layAll (env : List (Nat × V)) : List C → List (Nat × Nat × Opd) → Option (List C)
  | cs, [] => some cs
  | cs, (off, n, x) :: r => (x.ev env).cells?.bind fun new => if new.length = n ∧ off + n ≤ cs.length then layAll env (lay cs off new) r else none

/-- What a function's literal keeps: numbers alone. -/
def capt : List V → Option (List (IntKind × Int))
  | [] => some []
  | .c (.int k n) :: r => (capt r).bind fun l => some ((k, n) :: l)
  | _ :: _ => none
/-- A function's literal: what it keeps is numbers, or one place. -/
def mkcV (f : FuncId) : List V → Option V
  | [.c (.ptr b off tot)] => some (.c (.clp f b off tot))
  | l => (capt l).bind fun ns => some (.c (.clo f ns))
def capV (ns : List (IntKind × Int)) : List V := ns.map fun p => .c (.int p.1 p.2)

/-- What leaves the memory alone. -/
def stepQ (env : List (Nat × V)) (m : List Blk) : I → Option V
  | .mov x => some (x.ev env)
  | .pick c a b => (c.ev env).bool?.bind fun t => some (if t then a.ev env else b.ev env)
  | .load1 a => match a.ev env with
    | .c (.ptr b off tot) => (live m b tot).bind fun blk => (blk.cs[off]?).bind fun c => some (.c c)
    | _ => none
  | .loadN a n => match a.ev env with
    | .c (.ptr b off tot) => (live m b tot).bind fun blk => guard' (off + n ≤ blk.cs.length) (some (.agg ((blk.cs.drop off).take n)))
    | _ => none
  | .fld a off => match a.ev env with
    | .c (.ptr b o tot) => (live m b tot).bind fun _ => some (.c (.ptr b (o + off) tot))
    | _ => none
  | .ixa a i len esz => match a.ev env, i.ev env with
    | .c (.ptr b o tot), .c (.int _ n) => (live m b tot).bind fun _ => guard' (0 ≤ n ∧ n < len) (some (.c (.ptr b (o + n.toNat * esz) tot)))
    | _, _ => none
  | .ixs s i esz => match s.ev env, i.ev env with
    | .c (.sl b o len tot), .c (.int _ n) => (live m b tot).bind fun _ => guard' (0 ≤ n ∧ n < len) (some (.c (.ptr b (o + n.toNat * esz) tot)))
    | _, _ => none
  | .ext x k => match x.ev env with
    | .tup vs => vs[k]?
    | _ => none
  | .bin op x y => bin' op (x.ev env) (y.ev env)
  | .binb ne x y => match x.ev env, y.ev env with
    | .c (.bool a), .c (.bool b) => some (.c (.bool (if ne then !(a == b) else a == b)))
    | _, _ => none
  | .bins op x y => match x.ev env, y.ev env with
    | .c (.str a), .c (.str b) => binS op a b
    | _, _ => none
  | .un op x => un' op (x.ev env)
  | .eqa ne ks x y => match x.ev env, y.ev env with
    | .agg a, .agg b => (eqL ks a b).bind fun t => some (.c (.bool (if ne then !t else t)))
    | _, _ => none
  | .nil ne x => match x.ev env with
    | .c .nils => some (.c (.bool (!ne)))
    | .c (.sl b _ _ tot) => (live m b tot).bind fun _ => some (.c (.bool ne))
    | _ => none
  | .len x => match x.ev env with
    | .c .nils => some (.c (.int .i64 0))
    | .c (.sl b _ n tot) => (live m b tot).bind fun _ => some (.c (.int .i64 n))
    | _ => none
  | .lens x => match x.ev env with
    | .c (.str s) => some (.c (.int .i64 s.size))
    | _ => none
  | .sla a n esz lo hi => match a.ev env with
    | .c (.ptr b o tot) => (live m b tot).bind fun blk => guard' (blk.esz = 0 ∧ n ≤ 4294967296) ((lo' env lo).bind fun l => (hi' env n hi).bind fun h => guard' (0 ≤ l ∧ l ≤ h ∧ h ≤ n ∧ l < n) (some (.c (.sl b (o + l.toNat * esz) (h - l).toNat tot))))
    | _ => none
  | .sls s esz lo hi => match s.ev env with
    | .c (.sl b o len tot) => (live m b tot).bind fun blk => guard' (blk.esz = 0 ∨ esz = blk.esz) ((lo' env lo).bind fun l => (hi' env len hi).bind fun h => guard' (0 ≤ l ∧ l ≤ h ∧ h ≤ len) (some (.c (.sl b (o + l.toNat * esz) (h - l).toNat tot))))
    | .c .nils => (lo' env lo).bind fun l => (hi' env 0 hi).bind fun h => guard' (l = 0 ∧ h = 0) (some (.c .nils))
    | _ => none
  | .bld z ps => (layAll env z ps).bind fun cs => some (.agg cs)
  | .prt x off n ag => match x.ev env with
    | .agg cs => if off + n ≤ cs.length then (if ag then some (.agg ((cs.drop off).take n)) else (cs[off]?).bind fun c => some (.c c)) else none
    | _ => none
  | .idx x i len n ag => match x.ev env, i.ev env with
    | .agg cs, .c (.int _ q) => if 0 ≤ q ∧ q < len ∧ q.toNat * n + n ≤ cs.length then (if ag then some (.agg ((cs.drop (q.toNat * n)).take n)) else (cs[q.toNat * n]?).bind fun c => some (.c c)) else none
    | _, _ => none
  | .idxs x i => match x.ev env, i.ev env with
    | .c (.str s), .c (.int _ q) => if 0 ≤ q then (s[q.toNat]?).bind fun b => some (.c (.int .u8 b.toNat)) else none
    | _, _ => none
  | .chk x => match x.ev env with
    | .c (.ptr b off tot) => (live m b tot).bind fun _ => some (.c (.ptr b off tot))
    | _ => none
  | .cvt k x => match x.ev env with
    | .c (.int _ n) => some (.c (.int k (k.wrap n)))
    | _ => none
  | .shf op x y => match x.ev env, y.ev env with
    | .c (.int k a), .c (.int _ b) => if b < 0 then none else match op with
      | .shl => some (.c (.int k (k.wrap (a * 2 ^ (min b.toNat k.bits)))))
      | .shr => some (.c (.int k (a.fdiv (2 ^ (min b.toNat k.bits)))))
      | _ => none
    | _, _ => none
  | .mxi lo x y => match x.ev env, y.ev env with
    | .c (.int k a), .c (.int k' b) => if k = k' then some (.c (.int k (if lo then (if a ≤ b then a else b) else (if a ≤ b then b else a)))) else none
    | _, _ => none
  | .mkc f l => mkcV f (l.map (·.ev env))
  | _ => none

/-- One block's cells written over. -/
def wrt (st : St) (n0 b off tot : Nat) (cs : List C) : Option St :=
  (live st.mem b tot).bind fun blk => guard' (blk.own = true ∧ off + cs.length ≤ blk.cs.length)
    (some { st with mem := st.mem.set b { blk with cs := lay blk.cs off cs }, esc := mx st.esc (refsL cs), wr := mx st.wr (n0 - b) })

/-- The elements that an append adds: how many, and their cells. -/
def src (env : List (Nat × V)) (m : List Blk) (esz : Nat) (x : Opd) : Option (Nat × List C) :=
  match x.ev env with
  | .c .nils => some (0, [])
  | .c (.sl b off n tot) => (live m b tot).bind fun blk => guard' (off + n * esz ≤ blk.cs.length) (some (n, (blk.cs.drop off).take (n * esz)))
  | _ => none

def rep (n : Nat) (z : List C) : List C := (List.replicate n z).flatten

def stepL (call : FuncId → List V → List Blk → Option Ret) (n0 : Nat) (st : St) : I → Option (V × St)
  | .alloc z ty => some (.c (.ptr st.mem.length 0 z.length), { st with mem := st.mem ++ [⟨z, ty, 0, true⟩], esc := mx st.esc (refsL z) })
  | .box x ty => (x.ev st.env).cells?.bind fun z => some (.c (.ptr st.mem.length 0 z.length), { st with mem := st.mem ++ [⟨z, ty, 0, true⟩], esc := mx st.esc (refsL z) })
  | .store a x n => match a.ev st.env with
    | .c (.ptr b off tot) => (x.ev st.env).cells?.bind fun cs => guard' (cs.length = n) ((wrt st n0 b off tot cs).bind fun st' => some (.c .undef, st'))
    | _ => none
  | .mks n z ty bytes => (n.ev st.env).int?.bind fun l => guard' (0 ≤ l ∧ l * bytes ≤ 140737488355328 ∧ 0 < bytes ∧ 0 < z.length)
      (some (.c (.sl st.mem.length 0 l.toNat (l.toNat * z.length)), { st with mem := st.mem ++ [⟨rep l.toNat z, ty, z.length, true⟩], esc := mx st.esc (refsL z) }))
  | .lit n esz z ps ty => guard' (n * esz ≤ 16777216 ∧ z.length = esz ∧ 0 < esz) ((layAll st.env (rep n z) (ps.map fun (i, x) => (i * esz, esz, x))).bind fun cs =>
      guard' (cs.length = n * esz) (some (.c (.sl st.mem.length 0 n (n * esz)), { st with mem := st.mem ++ [⟨cs, ty, esz, true⟩], esc := mx st.esc (refsL cs) })))
  | .call f args => (call f (args.map (·.ev st.env)) st.mem).bind fun r => some (r.v, { st with mem := r.mem, esc := mx st.esc r.esc, wr := mx st.wr (r.wr - (st.mem.length - n0)) })
  | .app s x ty esz bytes => (src st.env st.mem esz x).bind fun p => match s.ev st.env with
    | .c .nils => if p.1 = 0 then some (.c .nils, st) else guard' (p.1 * bytes ≤ 140737488355328 ∧ 0 < esz ∧ 0 < bytes)
        (some (.c (.sl st.mem.length 0 p.1 (p.1 * esz)), { st with mem := st.mem ++ [⟨p.2, ty, esz, true⟩], esc := mx st.esc (refsL p.2) }))
    | .c (.sl b off len tot) => (live st.mem b tot).bind fun blk => guard' (blk.own = true ∧ blk.esz = esz ∧ 0 < esz ∧ blk.ty = ty ∧ off = 0 ∧ tot = len * esz ∧ (len + p.1) * bytes ≤ 140737488355328 ∧ 0 < bytes)
        (some (.c (.sl b 0 (len + p.1) (tot + p.1 * esz)), { st with mem := st.mem.set b { blk with cs := blk.cs ++ p.2 }, esc := mx st.esc (refsL p.2), wr := mx st.wr (n0 - b) }))
    | _ => none
  | .callv x args => match x.ev st.env with
    | .c (.fn f) => (call f (args.map (·.ev st.env)) st.mem).bind fun r => some (r.v, { st with mem := r.mem, esc := mx st.esc r.esc, wr := mx st.wr (r.wr - (st.mem.length - n0)) })
    | .c (.clo f ns) => (call f (args.map (·.ev st.env) ++ capV ns) st.mem).bind fun r => some (r.v, { st with mem := r.mem, esc := mx st.esc r.esc, wr := mx st.wr (r.wr - (st.mem.length - n0)) })
    | .c (.clp f b off tot) => (call f (args.map (·.ev st.env) ++ [.c (.ptr b off tot)]) st.mem).bind fun r => some (r.v, { st with mem := r.mem, esc := mx st.esc r.esc, wr := mx st.wr (r.wr - (st.mem.length - n0)) })
    | _ => none
  | .clr x z => match x.ev st.env with
    | .c .nils => some (.c .undef, st)
    | .c (.sl b off n tot) => (live st.mem b tot).bind fun _ => if n = 0 then some (.c .undef, st) else (wrt st n0 b off tot (rep n [z])).bind fun st' => some (.c .undef, st')
    | _ => none
  | i => (stepQ st.env st.mem i).bind fun v => some (v, st)

def put (dst : Option Nat) (v : V) (st : St) : St := match dst with | none => st | some d => { st with env := (d, v) :: st.env }

/-- What follows a guard: let through, or not; behind it what the guard looks at is known. -/
def want {α : Type} (env : List (Nat × V)) (gd : Option (Nat × Bool)) (yes no : List (Nat × V) → Option α) : Option α :=
  match gd with
  | none => yes env
  | some (t, b) => match get env t with
    | .c (.bool x) => if x = b then yes ((t, .c (.bool b)) :: env) else no ((t, .c (.bool (!b))) :: env)
    | .c .undef => no env
    | _ => none

def execOps (call : FuncId → List V → List Blk → Option Ret) (n0 : Nat) : List IOp → St → Option St
  | [], st => some st
  | o :: r, st => want st.env o.gd
      (fun env => (stepL call n0 { st with env := env } o.i).bind fun p => execOps call n0 r (put o.dst p.1 p.2))
      (fun env => execOps call n0 r (put o.dst (.c .undef) { st with env := env }))

/-- A value that has one form alone in a world: no reference, nothing unknown. -/
def C.hard : C → Bool
  | .bool _ | .int _ _ | .str _ | .nilp | .nils | .fn _ | .clo _ _ => true
  | _ => false
def V.hard : V → Bool
  | .c x => x.hard
  | .agg cs => cs.all (·.hard)
  | .tup vs => vs.all fun | .c x => x.hard | .agg cs => cs.all (·.hard) | _ => false

/-- One operation of a region whose order is open. -/
def stepD (call : FuncId → List V → List Blk → Option Ret) (env : List (Nat × V)) (m : List Blk) : I → Option V
  | .call f args => (call f (args.map (·.ev env)) m).bind fun r => if r.wr = 0 ∧ r.mem.length = m.length ∧ r.v.hard = true then some r.v else none
  | .callv x args => match x.ev env with
    | .c (.fn f) => (call f (args.map (·.ev env)) m).bind fun r => if r.wr = 0 ∧ r.mem.length = m.length ∧ r.v.hard = true then some r.v else none
    | .c (.clo f ns) => (call f (args.map (·.ev env) ++ capV ns) m).bind fun r => if r.wr = 0 ∧ r.mem.length = m.length ∧ r.v.hard = true then some r.v else none
    | _ => none
  | i => stepQ env m i

def execD (call : FuncId → List V → List Blk → Option Ret) (m : List Blk) : List IOp → List (Nat × V) → Option (List (Nat × V))
  | [], env => some env
  | o :: r, env => match o.dst with
    | none => none
    | some d => want env o.gd
      (fun env => (stepD call env m o.i).bind fun v => execD call m r ((d, v) :: env))
      (fun env => execD call m r ((d, .c .undef) :: env))

/-! Regions whose order is open and that make or write memory. -/
def I.opds : I → List Opd
  | .mov x => [x] | .pick c a b => [c, a, b]
  | .load1 a => [a] | .loadN a _ => [a] | .fld a _ => [a]
  | .ixa a i _ _ => [a, i] | .ixs a i _ => [a, i]
  | .ext x _ => [x]
  | .bin _ x y => [x, y] | .binb _ x y => [x, y] | .bins _ x y => [x, y]
  | .un _ x => [x]
  | .eqa _ _ x y => [x, y]
  | .nil _ x => [x] | .len x => [x] | .lens x => [x]
  | .sla a _ _ lo hi => a :: (lo.toList ++ hi.toList) | .sls a _ lo hi => a :: (lo.toList ++ hi.toList)
  | .bld _ ps => ps.map (·.2.2)
  | .prt x _ _ _ => [x]
  | .mxi _ x y => [x, y]
  | .idx x i _ _ _ => [x, i] | .idxs x i => [x, i]
  | .chk x => [x] | .cvt _ x => [x]
  | .shf _ x y => [x, y]
  | .call _ l => l
  | .callv x l => x :: l
  | .mkc _ l => l
  | .bad => []
  | .clr x _ => [x]
  | .alloc _ _ => []
  | .box x _ => [x]
  | .store a x _ => [a, x]
  | .mks n _ _ _ => [n]
  | .lit _ _ _ ps _ => ps.map (·.2)
  | .app s x _ _ _ => [s, x]
/-- 0: no memory; 1: looks at it; 2: writes or makes it; 3: a call. -/
def I.cls : I → Nat
  | .load1 _ | .loadN _ _ | .fld _ _ | .ixa _ _ _ _ | .ixs _ _ _ | .nil _ _ | .len _ | .sla _ _ _ _ _ | .sls _ _ _ _ | .chk _ => 1
  | .alloc _ _ | .box _ _ | .store _ _ _ | .mks _ _ _ _ | .lit _ _ _ _ _ | .app _ _ _ _ _ => 2
  | .call _ _ | .callv _ _ | .clr _ _ => 3
  | _ => 0
def I.makes : I → Bool
  | .alloc _ _ | .box _ _ | .mks _ _ _ _ | .lit _ _ _ _ _ => true
  | _ => false
def EOp.cls (o : EOp) : Nat := if o.ml = true ∧ o.op.i.cls = 3 then 0 else o.op.i.cls

/-- What an operation looks at and writes: blocks whose form it looks at, cells it reads, cells it writes, blocks it makes or makes longer. -/
structure Foot where
  sr : List Nat
  cr : List (Nat × Nat × Nat)
  cw : List (Nat × Nat × Nat)
  sw : List Nat
def far (x y : Nat × Nat × Nat) : Bool := decide (x.1 ≠ y.1 ∨ x.2.1 + x.2.2 ≤ y.2.1 ∨ y.2.1 + y.2.2 ≤ x.2.1)
def Foot.fits (f g : Foot) : Bool :=
  (f.sw.all fun b => g.sr.all (fun c => decide (b ≠ c)) && g.sw.all (fun c => decide (b ≠ c))) && (g.sw.all fun b => f.sr.all (fun c => decide (b ≠ c))) &&
  (f.cw.all fun x => g.cw.all (far x) && g.cr.all (far x)) && (g.cw.all fun x => f.cr.all (far x))
def V.blk : V → List Nat
  | .c (.ptr b _ _) => [b]
  | .c (.sl b _ _ _) => [b]
  | _ => []
def V.rng (n : Nat) : V → List (Nat × Nat × Nat)
  | .c (.ptr b o _) => [(b, o, n)]
  | _ => []
def V.srng (esz : Nat) : V → List (Nat × Nat × Nat)
  | .c (.sl b o n _) => [(b, o, n * esz)]
  | _ => []
def foot (env : List (Nat × V)) (q : Nat) : I → Foot
  | .load1 a => ⟨(a.ev env).blk, (a.ev env).rng 1, [], []⟩
  | .loadN a n => ⟨(a.ev env).blk, (a.ev env).rng n, [], []⟩
  | .fld a _ => ⟨(a.ev env).blk, [], [], []⟩
  | .ixa a _ _ _ => ⟨(a.ev env).blk, [], [], []⟩
  | .ixs a _ _ => ⟨(a.ev env).blk, [], [], []⟩
  | .nil _ a => ⟨(a.ev env).blk, [], [], []⟩
  | .len a => ⟨(a.ev env).blk, [], [], []⟩
  | .chk a => ⟨(a.ev env).blk, [], [], []⟩
  | .sla a _ _ _ _ => ⟨(a.ev env).blk, [], [], []⟩
  | .sls a _ _ _ => ⟨(a.ev env).blk, [], [], []⟩
  | .store a _ n => ⟨(a.ev env).blk, [], (a.ev env).rng n, []⟩
  | .app s x _ esz _ => ⟨(s.ev env).blk ++ (x.ev env).blk, (x.ev env).srng esz, [], (s.ev env).blk⟩
  | .alloc _ _ => ⟨[], [], [], [q]⟩
  | .box _ _ => ⟨[], [], [], [q]⟩
  | .mks _ _ _ _ => ⟨[], [], [], [q]⟩
  | .lit _ _ _ _ _ => ⟨[], [], [], [q]⟩
  | _ => ⟨[], [], [], []⟩
def dead : Blk := ⟨[], 0, 1, false⟩
def isDead (m : List Blk) (q : Nat) : Bool := match m[q]? with
  | some ⟨[], _, 1, false⟩ => true
  | _ => false
/-- A block that was made on no memory is put into its place. -/
def place (q : Nat) (st : St) (r : V × St) : Option (V × St) := match r.2.mem with
  | [blk] => match r.1 with
    | .c (.ptr _ o t) => guard' (isDead st.mem q = true ∧ refsL blk.cs ≤ st.mem.length) (some (.c (.ptr q o t), { st with mem := st.mem.set q blk, esc := r.2.esc }))
    | .c (.sl _ o l t) => guard' (isDead st.mem q = true ∧ refsL blk.cs ≤ st.mem.length) (some (.c (.sl q o l t), { st with mem := st.mem.set q blk, esc := r.2.esc }))
    | _ => none
  | _ => none
def nilApp (env : List (Nat × V)) : I → Bool
  | .app s x _ _ _ => match s.ev env with
    | .c .nils => match x.ev env with
      | .c .nils => false
      | .c (.sl _ _ 0 _) => false
      | _ => true
    | _ => false
  | _ => false
def pureC (st : St) (args : List V) (r : Ret) : Option (V × St) := if V.refsAll args = 0 ∧ r.wr = 0 ∧ r.mem = [] then some (r.v, st) else none
def stepE (call : FuncId → List V → List Blk → Option Ret) (n0 n : Nat) (o : EOp) (st : St) : Option (V × St) :=
  if o.op.i.makes then (stepL call n0 { st with mem := [] } o.op.i).bind (place (n + o.p) st)
  else if o.ml then match o.op.i with
    | .call f args => (call f (args.map (·.ev st.env)) []).bind (pureC st (args.map (·.ev st.env)))
    | .callv x args => match x.ev st.env with
      | .c (.fn f) => (call f (args.map (·.ev st.env)) []).bind (pureC st (args.map (·.ev st.env)))
      | _ => none
    | _ => none
  else if nilApp st.env o.op.i then none else stepL call n0 st o.op.i
def wantB (env : List (Nat × V)) : Option (Nat × Bool) → Option Bool
  | none => some true
  | some (t, b) => match get env t with
    | .c (.bool x) => some (x == b)
    | .c .undef => some false
    | _ => none
def stepG (call : FuncId → List V → List Blk → Option Ret) (n0 n : Nat) (o : EOp) (st : St) : Option (V × St × Foot) :=
  (wantB st.env o.op.gd).bind fun t => if t then (stepE call n0 n o st).bind fun r => some (r.1, r.2, foot st.env (n + o.p) o.op.i) else some (.c .undef, st, ⟨[], [], [], []⟩)
def okF (un : List Nat) (fs : List (Nat × Foot)) (F : Foot) : Bool := fs.all fun p => !(un.contains p.1) || p.2.fits F
def execE (call : FuncId → List V → List Blk → Option Ret) (n0 n : Nat) : List EOp → List (Nat × Foot) → St → Option St
  | [], _, st => some st
  | o :: r, fs, st => (stepG call n0 n o st).bind fun q => if okF o.un fs q.2.2 = true then execE call n0 n r ((o.ix, q.2.2) :: fs) (put o.op.dst q.1 q.2.1) else none

/-- At the head of a loop: what is not kept is forgotten. -/
def envRefs : List (Nat × V) → Nat
  | [] => 0
  | (_, v) :: r => mx v.refs (envRefs r)
def trim (n0 : Nat) : Option (List Nat) → St → St
  | none, st => st
  | some ks, st =>
    let env := ks.map fun k => (k, get st.env k)
    { st with env := env, mem := st.mem.take (mx n0 (mx st.esc (envRefs env))) }

def iter (f : St → Option (Ex × St)) (tr : St → St) : Nat → St → Option (Ex × St)
  | 0, _ => none
  | n + 1, st => (f (tr st)).bind fun p => match p.1 with
    | .norm => iter f tr n p.2
    | e => some (e, p.2)

def exec (call : FuncId → List V → List Blk → Option Ret) (L n0 : Nat) : Option (List Nat) → IC → St → Option (Ex × St)
  | _, .skip, st => some (.norm, st)
  | _, .reg false ops, st => (execOps call n0 ops st).bind fun st' => some (.norm, st')
  | _, .reg true ops, st => (execD call st.mem ops st.env).bind fun env => some (.norm, { st with env := env })
  | _, .regE k ops, st => (execE call n0 st.mem.length ops [] { st with mem := st.mem ++ List.replicate k dead }).bind fun st' => some (.norm, st')
  | kp, .seq a b, st => (exec call L n0 kp a st).bind fun p => match p.1 with
    | .norm => exec call L n0 kp b p.2
    | e => some (e, p.2)
  | kp, .cond c a b, st => (c.ev st.env).bool?.bind fun t => if t then exec call L n0 kp a st else exec call L n0 kp b st
  | _, .block id kp ka b, st => (exec call L n0 kp b st).bind fun p => match p.1 with
    | .exit j => if j = id then some (.norm, trim n0 ka p.2) else some (.exit j, p.2)
    | .norm => some (.norm, trim n0 ka p.2)
    | .ret => some (.ret, p.2)
  | kp, .loop b, st => iter (fun s => exec call L n0 none b s) (trim n0 kp) L st
  | _, .exit id, st => some (.exit id, st)
  | _, .ret ks, st => some (.ret, trim n0 ks st)

/-- The blocks from n0 on that a value names, each once. -/
def C.own (n0 : Nat) : C → List Nat
  | .ptr b _ _ | .sl b _ _ _ | .clp _ b _ _ => if b < n0 then [] else [b]
  | _ => []
def V.own (n0 : Nat) : V → List Nat
  | .c x => x.own n0
  | .agg cs => cs.flatMap (·.own n0)
  | .tup vs => vs.flatMap fun | .c x => x.own n0 | .agg cs => cs.flatMap (·.own n0) | _ => []
def nub : List Nat → List Nat
  | [] => []
  | a :: r => a :: (nub r).filter fun x => !(x == a)
def pos (n0 : Nat) : List Nat → Nat → Nat
  | [], b => b
  | a :: r, b => if b = a then n0 else pos (n0 + 1) r b
def C.ren (f : Nat → Nat) : C → C
  | .ptr b o t => .ptr (f b) o t
  | .sl b o n t => .sl (f b) o n t
  | .clp g b o t => .clp g (f b) o t
  | c => c
def V.ren (f : Nat → Nat) : V → V
  | .c x => .c (x.ren f)
  | .agg cs => .agg (cs.map (·.ren f))
  | .tup vs => .tup (vs.map fun | .c x => .c (x.ren f) | .agg cs => .agg (cs.map (·.ren f)) | v => v)
def pickB (m : List Blk) : List Nat → Option (List Blk)
  | [] => some []
  | b :: r => (m[b]?).bind fun blk => if refsL blk.cs = 0 then (pickB m r).bind fun l => some (blk :: l) else none

/-- At a function's end: what is not handed back is forgotten. -/
def fin (n0 : Nat) (v : V) (st : St) : Ret :=
  if st.wr = 0 then
    if v.refs ≤ n0 then ⟨v, st.mem.take n0, 0, 0⟩
    else match pickB st.mem (nub (v.own n0)) with
      | some l => ⟨v.ren (pos n0 (nub (v.own n0))), st.mem.take n0 ++ l, 0, 0⟩
      | none => ⟨v, st.mem.take (mx n0 (mx st.esc v.refs)), st.esc, 0⟩
  else ⟨v, st.mem.take (mx n0 (mx st.esc v.refs)), st.esc, st.wr⟩

def V.one? : V → Option V
  | .tup _ => none
  | v => some v
def res1 (st : St) : IR → Option V
  | .t i => (get st.env i).one?
  | .cell i n ag => if ag then stepQ st.env st.mem (.loadN (.t i) n) else stepQ st.env st.mem (.load1 (.t i))
def resAll (st : St) : List IR → Option (List V)
  | [] => some []
  | r :: l => (res1 st r).bind fun v => (resAll st l).bind fun vs => some (v :: vs)
def resV : List V → V
  | [v] => v
  | vs => .tup vs

def number : Nat → List V → List (Nat × V)
  | _, [] => []
  | i, v :: r => (i, v) :: number (i + 1) r

def runF (call : FuncId → List V → List Blk → Option Ret) (L : Nat) (fn : IFn) (args : List V) (m : List Blk) : Option Ret :=
  if args.length ≤ fn.nt then (exec call L m.length none fn.body ⟨number 0 args, m, 0, 0⟩).bind fun p => match p.1 with
    | .exit _ => none
    | _ => (resAll p.2 fn.res).bind fun vs => some (fin m.length (resV vs) p.2)
  else none

/-- Calls to a depth: first what is known from outside, then the program's own text. -/
def den (T : FuncId → Option IFn) (X : FuncId → List V → List Blk → Option Ret) (L : Nat) : Nat → FuncId → List V → List Blk → Option Ret
  | 0, f, args, m => X f args m
  | k + 1, f, args, m => match T f with
    | some fn => runF (den T X L k) L fn args m
    | none => X f args m

/-! ### The translation -/
def cv : Value → C
  | .int k n => .int k n
  | .bool b => .bool b
  | .string s => .str s
  | .pointer a => if a.isNone then .nilp else .junk
  | .slice a n c => if a.isNone && n == 0 && c == 0 then .nils else .junk
  | .func fn x y => match fn with
    | .func f => if x.isEmpty && y.isEmpty then .fn f else .junk
    | _ => .junk
  | .nilFunc => .flat .nilFunc
  | .nilIface => .flat .nilIface
  | .map r => .flat (.map r)
  | _ => .junk
def trV : Value → V
  | .agg cs => if cs.all (·.oneCell') then .agg (cs.toList.map cv) else .c .junk
  | v => .c (cv v)
def trO : Operand → Opd
  | .tmp t => .t t
  | .const v => .k (trV v)
  | .func f => .k (.c (.fn f))
  | .global _ => .k (.c .junk)

def szT (P : Program) (t : TypeId) : Option Nat := (P.info? t).map (·.size)
def aggT (P : Program) (t : TypeId) : Option Bool := (P.underlying t).map fun | .struct _ | .array _ _ => true | _ => false
def zeroT (P : Program) (t : TypeId) : Option (List C) := ((P.info? t).bind (·.zero)).bind fun v => if v.cells.all (·.oneCell') then some (v.cells.toList.map cv) else none

/-- A type of whole numbers and bools alone, its cells side by side: their kinds. -/
def flatFs (P : Program) (F : TypeId → Option (List (Option IntKind))) : List Field → Nat → Option (List (Option IntKind))
  | [], _ => some []
  | f :: r, off => if f.name ≠ "_" ∧ f.offset = off then (F f.type).bind fun ks => if szT P f.type = some ks.length then (flatFs P F r (off + ks.length)).bind fun l => some (ks ++ l) else none else none
def flatT (P : Program) : Nat → TypeId → Option (List (Option IntKind))
  | 0, _ => none
  | d + 1, t => match P.underlying t with
    | some .bool => if szT P t = some 1 then some [none] else none
    | some (.int k) => if szT P t = some 1 then some [some k] else none
    | some (.struct fields) => if P.stoodInHeld t then none else (flatFs P (flatT P d) fields.toList 0).bind fun ks => if szT P t = some ks.length then some ks else none
    | some (.array len elem) => (flatT P d elem).bind fun ks => if szT P elem = some ks.length ∧ szT P t = some (len * ks.length) then some (List.replicate len ks).flatten else none
    | _ => none

def trPairs (P : Program) (fields : Array Field) : List (Nat × Operand) → Option (List (Nat × Nat × Opd))
  | [] => some []
  | (i, x) :: r => (fields[i]?).bind fun f => (szT P f.type).bind fun n => (trPairs P fields r).bind fun l => some ((f.offset, n, trO x) :: l)

def one? : List C → Option C
  | [z] => some z
  | _ => none
def trI (P : Program) : Op → Option I
  | .move x | .assign x => some (.mov (trO x))
  | .pick c a b => some (.pick (trO c) (trO a) (trO b))
  | .load t a => (aggT P t).bind fun ag => if ag then (szT P t).map (.loadN (trO a)) else some (.load1 (trO a))
  | .fieldAddr s x f => match P.underlying s with
    | some (.struct fields) => (fields[f]?).bind fun fd => (szT P fd.type).bind fun n => if n = 0 then none else some (.fld (trO x) fd.offset)
    | _ => none
  | .indexAddr t x i => match P.underlying t with
    | some (.array len elem) => (szT P elem).map (.ixa (trO x) (trO i) len)
    | some (.slice elem) => (szT P elem).map (.ixs (trO x) (trO i))
    | _ => none
  | .extract x k => some (.ext (trO x) k)
  | .binOp op ty x y _ => match P.underlying ty with
    | some (.int _) => if op = .shl ∨ op = .shr then some (.shf op (trO x) (trO y)) else some (.bin op (trO x) (trO y))
    | some .string => some (.bins op (trO x) (trO y))
    | some .bool => match op with
      | .eql => some (.binb false (trO x) (trO y))
      | .neq => some (.binb true (trO x) (trO y))
      | _ => none
    | some (.struct _) => if P.eqGuardType P.depth ty then none else (flatT P 20 ty).bind fun ks => match op with
      | .eql => some (.eqa false ks (trO x) (trO y))
      | .neq => some (.eqa true ks (trO x) (trO y))
      | _ => none
    | some (.array _ _) => if P.eqGuardType P.depth ty then none else (flatT P 20 ty).bind fun ks => match op with
      | .eql => some (.eqa false ks (trO x) (trO y))
      | .neq => some (.eqa true ks (trO x) (trO y))
      | _ => none
    | _ => none
  | .unOp op _ x => some (.un op (trO x))
  | .alloc t => (zeroT P t).map fun z => .alloc z t
  | .box t x => some (.box (trO x) t)
  | .store t a x => (szT P t).map (.store (trO a) (trO x))
  | .slice t x lo hi mx => match mx, P.underlying t with
    | none, some (.array n elem) => (szT P elem).map fun s => .sla (trO x) n s (lo.map trO) (hi.map trO)
    | none, some (.slice elem) => (szT P elem).map fun s => .sls (trO x) s (lo.map trO) (hi.map trO)
    | _, _ => none
  | .build t parts => match P.underlying t with
    | some (.struct fields) => if fields.all (fun f => (szT P f.type).isSome) then (zeroT P t).bind fun z => (trPairs P fields parts.toList).map (.bld z) else none
    | some (.array _ e) => (zeroT P t).bind fun z => (szT P e).map fun n => .bld z (parts.toList.map fun (i, x) => (i * n, n, trO x))
    | _ => none
  | .nilCheck x => some (.chk (trO x))
  | .makeInterface _ _ => some .bad
  | .panic _ => some .bad
  | .makeFunc fn first captured => match fn with
    | .func f => if first.isEmpty then some (.mkc f (captured.toList.map trO)) else none
    | _ => none
  | .convert src dst x => match P.underlying src, P.underlying dst with
    | some _, some (.int k) => some (.cvt k (trO x))
    | _, _ => none
  | .field t x f => match P.underlying t with
    | some (.struct fields) => (fields[f]?).bind fun fd => (szT P fd.type).bind fun n => (aggT P fd.type).bind fun ag => if ag = true ∨ n = 1 then some (.prt (trO x) fd.offset n ag) else none
    | _ => none
  | .index t x i => match P.underlying t with
    | some (.array len e) => (szT P e).bind fun n => (aggT P e).bind fun ag => if ag = true ∨ n = 1 then some (.idx (trO x) (trO i) len n ag) else none
    | some .string => some (.idxs (trO x) (trO i))
    | _ => none
  | .call c => match c.callee with
    | .value (.func f) => some (.call f (c.args.toList.map trO))
    | .value (.tmp t) => some (.callv (.t t) (c.args.toList.map trO))
    | .builtin .len => match c.args.toList, c.argTypes.toList with
      | [x], [t] => match P.underlying t with
        | some (.slice _) => some (.len (trO x))
        | some .string => some (.lens (trO x))
        | some (.array n _) => some (.mov (.k (.c (.int .i64 n))))
        | _ => none
      | _, _ => none
    | .builtin .max => match c.args.toList with
      | [x, y] => some (.mxi false (trO x) (trO y))
      | _ => none
    | .builtin .min => match c.args.toList with
      | [x, y] => some (.mxi true (trO x) (trO y))
      | _ => none
    | .builtin .clear => match c.args.toList, c.argTypes.toList with
      | [x], [t] => match P.underlying t with
        | some (.slice e) => ((zeroT P e).bind one?).map (.clr (trO x))
        | _ => none
      | _, _ => none
    | .builtin .append => match c.args.toList, c.argTypes.toList with
      | [x, y], [t, u] => match P.underlying t, P.underlying u with
        | some (.slice e), some (.slice e') => if e = e' ∧ t = u then (P.info? e).bind fun i => (zeroT P e).bind fun z => if i.size = z.length then some (.app (trO x) (trO y) e i.size i.bytes) else none else none
        | _, _ => none
      | _, _ => none
    | _ => none
  | .makeSlice t l c => match P.underlying t, trO l, trO c with
    | some (.slice e), .t a, .t b => if a = b then (P.info? e).bind fun i => (zeroT P e).bind fun z => if i.size = z.length then some (.mks (.t a) z e i.bytes) else none else none
    | _, _, _ => none
  | .buildSlice t n parts => match P.underlying t with
    | some (.slice e) => (P.info? e).bind fun i => (zeroT P e).bind fun z => if i.size = z.length then some <| .lit n i.size z (parts.toList.map fun (j, x) => (j, trO x)) e else none
    | _ => none
  | _ => none

def trOps (P : Program) (all : Array Oper) (nt : Nat) : List Oper → Option (List IOp)
  | [] => some []
  | o :: r => (trI P o.op).bind fun i => (trOps P all nt r).bind fun l =>
    match o.dst with
    | some d => if d < nt then (match o.guard with
        | none => some (⟨some d, none, i⟩ :: l)
        | some (j, b) => ((all[j]?).bind (·.dst)).bind fun t => some (⟨some d, some (t, b), i⟩ :: l)) else none
    | none => match o.guard with
        | none => some (⟨none, none, i⟩ :: l)
        | some (j, b) => ((all[j]?).bind (·.dst)).bind fun t => some (⟨none, some (t, b), i⟩ :: l)

/-- What is kept at a block's head and behind it; and at a return. -/
structure Keep where
  l : List (Nat × List Nat × List Nat)
  r : List Nat
  e : Bool := false
def keepOf : List (Nat × List Nat × List Nat) → Nat → Option (List Nat × List Nat)
  | [], _ => none
  | (i, l) :: r, id => if i = id then some l else keepOf r id

/-! Open regions that make or write memory. -/
def IOp.looks (o : IOp) : List Nat := (o.i.opds.filterMap fun | .t i => some i | _ => none) ++ (o.gd.toList.map (·.1))
def apartI (x y : IOp) : Bool := (match x.dst with | some d => !(y.looks.contains d) && y.dst != some d | none => true) && (match y.dst with | some d => !(x.looks.contains d) | none => true)
/-- Whom a number waits for, at once or by way of others; and what makes such a list good. -/
def joinN : List Nat → List Nat → List Nat
  | [], s => s
  | x :: r, s => if s.contains x then joinN r s else joinN r (x :: s)
def reachL (ops : Array Oper) : List (List Nat) := ops.toList.foldl (fun acc o => acc ++ [(o.after.toList.filter fun e => Region.binds .any e).foldl (fun r e => joinN (e.on :: acc.getD e.on []) r) []]) []
def inR (R : List (List Nat)) (j k : Nat) : Bool := (R.getD k []).contains j
def reachOk (ops : Array Oper) (R : List (List Nat)) : Bool := (List.range ops.size).all fun k => (R.getD k []).all fun j => ((ops[k]?).map fun o => o.after.any fun e => Region.binds .any e && (e.on == j || (decide (e.on < k) && inR R j e.on))).getD false
def trE1 (R : List (List Nat)) (l : List IOp) (k p : Nat) (o : IOp) : EOp :=
  let js := (List.range l.length).filter fun j => j != k && !(inR R j k) && !(inR R k j)
  let c (j : Nat) : Nat := ((l[j]?).map (·.i.cls)).getD 0
  let ml := o.i.cls == 3 && js.any fun j => c j != 0
  let un := if ml || o.i.cls == 0 then [] else js.filter fun j => decide (j < k) && c j != 0 && !(c j == 1 && o.i.cls == 1)
  ⟨o, k, p, ml, un⟩
def trE (R : List (List Nat)) (all : List IOp) : Nat → Nat → List IOp → List EOp
  | _, _, [] => []
  | k, p, o :: r => trE1 R all k p o :: trE R all (k + 1) (if o.i.makes then p + 1 else p) r
/-- Two operations of which neither waits for the other: apart, and what they do with memory is looked after. -/
def pairE (a i : EOp) : Bool := apartI a.op i.op && !(a.un.contains i.ix) && (a.cls == 0 || i.cls == 0 || (a.cls == 1 && i.cls == 1) || (i.un.contains a.ix && a.cls != 3 && i.cls != 3))
def regOk (ops : Array Oper) (R : List (List Nat)) (l : List EOp) : Bool := reachOk ops R &&
  (List.range l.length).all fun k => (match ops[k]? with | some o => o.after.all fun e => !(Region.binds .any e) || decide (e.on < k) | none => false) &&
    (match l[k]? with | some i => i.ix == k && (List.range k).all fun j => inR R j k || (match l[j]? with | some a => pairE a i | none => false) | none => false)
def trRE (P : Program) (ops : Array Oper) (l : List IOp) : Option IC :=
  let R := reachL ops
  let es := trE R l 0 0 l
  if regOk ops R es then some (.regE ((l.filter (·.i.makes)).length) es) else none

def trC (P : Program) (nt : Nat) (keep : Keep) : Code → Option IC
  | .skip => some .skip
  | .region id ops draw => if draw && !(P.follows .mixedOrders && Region.lexB .any ops) then none else (trOps P ops nt ops.toList).bind fun l => if draw && (l.any fun o => o.i.cls == 2 || o.dst.isNone || (keep.e && o.i.cls == 3)) then trRE P ops l else some (.reg draw l)
  | .seq a b => (trC P nt keep a).bind fun x => (trC P nt keep b).map (.seq x)
  | .cond c a b => (trC P nt keep a).bind fun x => (trC P nt keep b).map (.cond (trO c) x)
  | .block id b => (trC P nt keep b).map (.block id ((keepOf keep.l id).map (·.1)) ((keepOf keep.l id).map (·.2)))
  | .loop b => (trC P nt keep b).map .loop
  | .exit id => some (.exit id)
  | .ret => some (.ret (some keep.r))
  | _ => none

def trR (P : Program) : List ResultVar → Option (List IR)
  | [] => some []
  | .tmp t :: r => (trR P r).map (.t t :: ·)
  | .cell a t :: r => (aggT P t).bind fun ag => (szT P t).bind fun n => (trR P r).map (.cell a n ag :: ·)

def trF (P : Program) (keep : Keep) (fn : Func) : Option IFn :=
  fn.body.bind fun c => (trC P fn.ntmps keep c).bind fun b => (trR P fn.results.toList).map fun rs => ⟨fn.ntmps, rs, b⟩
end Go.Proofs.Ytkoloapgeilbdaa
