/- From the model's code to the evaluator's. -/
import Derived.Test.YtnnadeeoejchpaaLmDefs
set_option linter.all false
namespace Go.Lm

def flatL (l : List V) : Bool := l.all fun v => v.t != 13 && v.t != 14
mutual
def compV : Value → Option V
  | .bool b => some (bif b then vT else vF)
  | .int k (.ofNat n) => some (vInt (ofK k) n)
  | .int k (.negSucc n) => some (vInt (ofK k + 1) n)
  | .string s => some (vStr (s.data.toList.map (·.toNat)))
  | .pointer none => some vNilP
  | .slice none 0 0 => some vNilS
  | .map none => some vNilM
  | .nilFunc => some vNilF
  | .agg cs => (compVA cs).bind fun l => if flatL l then some (vAgg l) else none
  | .tuple cs => (compVA cs).map vTup
  | _ => none
def compVA : Array Value → Option (List V)
  | ⟨l⟩ => compVL l
def compVL : List Value → Option (List V)
  | [] => some []
  | v :: l => match compV v, compVL l with
    | some v, some l => some (v :: l)
    | _, _ => none
end

/-- (read at once by the kernel) -/
abbrev ifB {α : Type} (b : Bool) (x y : α) : α := match b with | true => x | false => y
/-- what a slot holds: what an operand is, or a value -/
abbrev Lv := V
inductive Src where
  | op (x : Operand)
  | val (v : Lv)
abbrev Al := List (Nat × Src)
def Al.look : Al → Nat → Src
  | [], t => .op (.tmp t)
  | (u, x) :: l, t => if u = t then x else Al.look l t
def Al.on (A : Al) : Operand → Src
  | .tmp t => A.look t
  | x => .op x
def isTmp (d : Nat) : Src → Bool
  | .op (.tmp t) => t == d
  | _ => false
/-- slot d is written -/
def Al.kill (A : Al) (d : Nat) : Al := A.filter fun p => !(p.1 == d) && !(isTmp d p.2)

/-- the same, as it is written -/
noncomputable abbrev killK {α : Type} (d : Nat) (A : Al) : (Al → α) → α :=
  List.rec (motive := fun _ => (Al → α) → α) (fun k => k []) (fun p _ ih k => ifB ((p.1 == d) || isTmp d p.2) (ih k) (ih fun A' => k (p :: A'))) A
abbrev onK {α : Type} (A : Al) (x : Operand) (k : Src → α) : α := match A.on x with | .op y => k (.op y) | .val v => k (.val v)

/-- an operand; none: a global, or a value that is not taken -/
noncomputable def compO0 : Operand → Option Od
  | .tmp t => some (ot t)
  | .const v => (compV v).map oc
  | .global _ => none
  | .func f => some (oc (vFn f []))

noncomputable def compO (A : Al) (x : Operand) : Option Od := match A.on x with
  | .op x => compO0 x
  | .val v => some (lv v)

noncomputable def compOs (A : Al) : List Operand → Option (List Od)
  | [] => some []
  | x :: l => match compO A x, compOs A l with
    | some x, some l => some (x :: l)
    | _, _ => none

noncomputable abbrev o1 (A : Al) (x : Operand) (f : Od → Opr) : Opr := match compO A x with | some x => f x | none => oBad 0
noncomputable abbrev o2 (A : Al) (x y : Operand) (f : Od → Od → Opr) : Opr := o1 A x fun x => o1 A y fun y => f x y
noncomputable abbrev oL (A : Al) (l : List Operand) (f : List Od → Opr) : Opr := match compOs A l with | some l => f l | none => oBad 0
noncomputable abbrev oO (A : Al) (x : Option Operand) (f : Option Od → Opr) : Opr := match x with | none => f none | some x => o1 A x fun x => f (some x)

section
variable (P : Program)

def isAggT (t : TypeId) : Option Bool := match P.underlying t with
  | some (.struct _) | some (.array _ _) => some true
  | some _ => some false
  | none => none

def flatT (t : TypeId) : Bool := match P.underlying t with
  | some .bool | some (.int _) | some .string => true
  | _ => false

def keyCode (t : TypeId) : Option Nat := match P.underlying t with
  | some .bool => some 0
  | some .string => some 1
  | some (.int k) => some (ofK k)
  | _ => none

def keyCodes : List TypeId → Option (List Nat)
  | [] => some []
  | t :: l => match keyCode P t, keyCodes l with
    | some k, some l => some (k :: l)
    | _, _ => none
/-- is a struct compared cell by cell? the codes of its fields -/
def flatEq (t : TypeId) (fs : Array Field) : Option (List Nat) :=
  if (fs.toList.zipIdx.all fun (f, i) => f.name != "_" && f.offset == i) && !P.stoodInHeld t && !P.eqGuardType P.depth t then keyCodes P (fs.toList.map (·.type)) else none

def zeroOf (t : TypeId) : Option (List V) := (((P.info? t).bind (·.zero)).bind fun v => compVL v.cells.toList).bind fun l => if flatL l && l.length == P.cellsOf t then some l else none

def slotOf (ops : Array Oper) (j : Nat) : Nat := ((ops[j]?).bind (·.dst)).getD 1000000

def isNilP : Operand → Bool
  | .const (.pointer none) => true
  | _ => false
def isNilS : Operand → Bool
  | .const (.slice none 0 0) => true
  | _ => false

noncomputable def compBin (A : Al) (op : BinOp) (t : TypeId) (x y : Operand) : Opr :=
  match P.underlying t, op with
  | some (.int k), .add => o2 A x y (oAdd (ofK k))
  | some (.int k), .sub => o2 A x y (oSub (ofK k))
  | some (.int k), .mul => o2 A x y (oMul (ofK k))
  | some (.int k), .quo => o2 A x y (oQuo (ofK k))
  | some (.int k), .rem => o2 A x y (oRem (ofK k))
  | some (.int k), .lss => o2 A x y (oLss (ofK k))
  | some (.int k), .leq => o2 A x y (oLeq (ofK k))
  | some (.int k), .gtr => o2 A x y (oGtr (ofK k))
  | some (.int k), .geq => o2 A x y (oGeq (ofK k))
  | some (.int k), .eql => o2 A x y (oEqI (ofK k))
  | some (.int k), .neq => o2 A x y (oNeI (ofK k))
  | some .string, .add => o2 A x y oCat
  | some .string, .eql => o2 A x y oEqS
  | some .string, .neq => o2 A x y oNeS
  | some .string, .lss => o2 A x y oLtS
  | some .string, .leq => o2 A x y oLeS
  | some .string, .gtr => o2 A x y oGtS
  | some .string, .geq => o2 A x y oGeS
  | some .bool, .eql => o2 A x y oEqB
  | some .bool, .neq => o2 A x y oNeB
  | some (.struct fs), .eql => match flatEq P t fs with | some kcs => o2 A x y (oEqG kcs) | none => oBad 20
  | some (.struct fs), .neq => match flatEq P t fs with | some kcs => o2 A x y (oNeG kcs) | none => oBad 20
  | some (.pointer _), .eql => if isNilP y then o1 A x oEqNP else oBad 21
  | some (.pointer _), .neq => if isNilP y then o1 A x oNeNP else oBad 21
  | some (.slice _), .eql => if isNilS y then o1 A x oEqNS else oBad 21
  | some (.slice _), .neq => if isNilS y then o1 A x oNeNS else oBad 21
  | _, _ => oBad 22

def placeOf (fs : Array Field) (i : Nat) : Nat × Nat := (((fs[i]?).map (·.offset)).getD 1000000, ((fs[i]?).map fun f => P.cellsOf f.type).getD 1000000)
noncomputable def compOp (A : Al) (o : Oper) : Opr :=
  match o.op with
  | .move x | .assign x => o1 A x oMv
  | .pick c a b => o1 A c fun c => o2 A a b fun a b => oPick c a b
  | .alloc t => match zeroOf P t with | some l => oAlloc l | none => oBad 1
  | .box _ x => o1 A x oBox
  | .build t parts =>
    match zeroOf P t, P.underlying t with
    | some z, some (.struct fs) => if fs.toList.all (fun f => (P.info? f.type).isSome) && parts.toList.all (fun p => decide (p.1 < fs.size)) then
        oL A (parts.toList.map (·.2)) fun xs => oBuild z (parts.toList.map fun p => placeOf P fs p.1) xs else oBad 2
    | some z, some (.array _ e) => if (P.info? e).isSome then oL A (parts.toList.map (·.2)) fun xs => oBuild z (parts.toList.map fun p => (p.1 * P.cellsOf e, P.cellsOf e)) xs else oBad 2
    | _, _ => oBad 2
  | .buildSlice t len parts =>
    match P.underlying t with
    | some (.slice e) => match zeroOf P e with
      | some z => if len * P.cellsOf e ≤ 2 ^ 20 then oL A (parts.toList.map (·.2)) fun xs => oBslice (P.cellsOf e) len z (parts.toList.map fun p => (p.1 * P.cellsOf e, P.cellsOf e)) xs else oBad 3
      | none => oBad 3
    | _ => oBad 3
  | .load t a => match isAggT P t with | some true => o1 A a (oLoadN (P.cellsOf t)) | some false => o1 A a oLoad1 | none => oBad 4
  | .store t a v => if (P.info? t).isSome then o2 A a v (oStore (P.cellsOf t)) else oBad 28
  | .nilCheck x => o1 A x oNilchk
  | .binOp .shr t x (.const (.int k' (.ofNat n))) u => match P.underlying t with | some (.int k) => if n ≤ k.bits then o1 A x (oShr (ofK k) n) else oBad 26 | _ => oBad 26
  | .binOp op t x y _ => compBin P A op t x y
  | .unOp .not _ x => o1 A x oNot
  | .unOp .neg t x => match P.underlying t with | some (.int k) => o1 A x (oNeg (ofK k)) | _ => oBad 25
  | .convert src dst x =>
    match P.underlying src, P.underlying dst with
    | some (.int k'), some (.int k) => o1 A x (oConvI (ofK k') (ofK k))
    | some .string, some .string => o1 A x oConvS
    | some (.slice e), some .string => match P.underlying e with | some (.int .u8) => if P.cellsOf e = 1 then o1 A x oOfBytes else oBad 5 | _ => oBad 5
    | _, _ => oBad 5
  | .makeFunc (.func f) first captured => if first.size = 0 then oL A captured.toList (oMkfn f) else oBad 23
  | .makeMap _ none => oMkmap
  | .mapUpdate t m k v | .insert t m k v => match P.underlying t with
    | some (.map kt _) => match keyCode P kt with | some kc => o1 A m fun m => o2 A k v fun k v => oMapupd kc m k v | none => oBad 27
    | _ => oBad 27
  | .lookup t m k ok => match P.underlying t with
    | some (.map kt e) => match ((P.info? e).bind (·.zero)).bind compV, keyCode P kt with | some z, some kc => o2 A m k fun m k => oLookup kc z m k ok | _, _ => oBad 6
    | _ => oBad 6
  | .makeSlice t l c => match P.underlying t with
    | some (.slice e) => match zeroOf P e, P.info? e with | some z, some i => o2 A l c fun l c => oMkslice i.size i.bytes z l c | _, _ => oBad 7
    | _ => oBad 7
  | .slice t x lo hi mx => match P.underlying t, mx with
    | some .string, none => o1 A x fun x => oO A lo fun lo => oO A hi fun hi => oSliceS x lo hi
    | some (.slice e), none => if (P.info? e).isSome then o1 A x fun x => oO A lo fun lo => oO A hi fun hi => oSliceL (P.cellsOf e) x lo hi else oBad 8
    | some (.slice e), some m => if hi.isSome && (P.info? e).isSome then o1 A x fun x => oO A lo fun lo => oO A hi fun hi => o1 A m fun m => oSlice3 (P.cellsOf e) x lo hi m else oBad 8
    | some (.array n e), none => if (P.info? e).isSome then o1 A x fun x => oO A lo fun lo => oO A hi fun hi => oSliceA (P.cellsOf e) n x lo hi else oBad 8
    | _, _ => oBad 8
  | .fieldAddr s x f => match P.underlying s with
    | some (.struct fs) => match fs[f]? with
      | some fd => if P.cellsOf fd.type = 0 then oBad 9 else o1 A x (oFaddr fd.offset)
      | none => oBad 9
    | _ => oBad 9
  | .field s x f => match P.underlying s with
    | some (.struct fs) => match fs[f]? with
      | some fd => match isAggT P fd.type with
        | some g => o1 A x (oField g fd.offset (bif g then P.cellsOf fd.type else 1))
        | none => oBad 10
      | none => oBad 10
    | _ => oBad 10
  | .indexAddr t x i => match P.underlying t with
    | some (.array n e) => if P.cellsOf e = 0 then oBad 11 else o2 A x i (oIaddrA n (P.cellsOf e))
    | some (.slice e) => if P.cellsOf e = 0 then oBad 11 else o2 A x i (oIaddrL (P.cellsOf e))
    | _ => oBad 11
  | .index t x i => match P.underlying t with
    | some (.array n e) => match isAggT P e with
      | some true => o2 A x i (oIndexA n (P.cellsOf e) true)
      | some false => if P.cellsOf e = 1 then o2 A x i (oIndexA n 1 false) else oBad 12
      | none => oBad 12
    | some .string => o2 A x i oIndexS
    | _ => oBad 12
  | .extract x i => o1 A x fun x => oExtract x i
  | .call c =>
    let a (j : Nat) : Operand := (c.args[j]?).getD (.global 0)
    match c.callee with
    | .value (.func f) => oL A c.args.toList (oCallF f)
    | .value x => o1 A x fun x => oL A c.args.toList (oCallV x)
    | .builtin .len => match (c.argTypes[0]?).bind P.underlying with
      | some .string => o1 A (a 0) oLenS
      | some (.slice _) => o1 A (a 0) oLenL
      | some (.array n _) => o1 A (a 0) (oLenC n)
      | some (.map _ _) => o1 A (a 0) oLenM
      | some (.pointer t) => match P.underlying t with | some (.array n _) => o1 A (a 0) (oLenC n) | _ => oBad 13
      | _ => oBad 13
    | .builtin .append => if c.args.size ≠ 2 ∨ c.argTypes.size ≠ 2 then oBad 14 else match (c.argTypes[0]?).bind P.underlying, (c.argTypes[1]?).bind P.underlying with
      | some (.slice e), some (.slice _) => match P.info? e, zeroOf P e with
        | some i, some _ => o2 A (a 0) (a 1) (oAppend i.size i.bytes)
        | _, _ => oBad 14
      | some (.slice e), some .string => match P.info? e, zeroOf P e with
        | some i, some _ => if i.size = 1 then o2 A (a 0) (a 1) (oAppendS i.bytes) else oBad 14
        | _, _ => oBad 14
      | some (.slice e), some (.int _) => match P.info? e, zeroOf P e with
        | some i, some z => o2 A (a 0) (a 1) (oAppendZ i.size i.bytes z)
        | _, _ => oBad 14
      | _, _ => oBad 14
    | .builtin .min => match (c.argTypes[0]?).bind P.underlying with | some (.int k) => if c.args.size = 2 then o2 A (a 0) (a 1) (oMin (ofK k)) else oBad 15 | _ => oBad 15
    | .builtin .max => match (c.argTypes[0]?).bind P.underlying with | some (.int k) => if c.args.size = 2 then o2 A (a 0) (a 1) (oMax (ofK k)) else oBad 15 | _ => oBad 15
    | .builtin .cap => match (c.argTypes[0]?).bind P.underlying with
      | some (.slice _) => o1 A (a 0) oCap
      | _ => oBad 16
    | .builtin _ => oBad 17
    | .invoke .. => oBad 18
  | _ => oBad 19

def bN1 (b : Bool) : Nat := bif b then 1 else 0

def isMv : Op → Option Operand
  | .move x | .assign x => some x
  | _ => none

/-- is a slot one of the N that the function has? -/
def dstOk (N : Nat) : Option Nat → Bool
  | none => true
  | some d => decide (d < N)
def opsBad : Ops := fun _ _ _ _ => none
/-- D: the slots that are not asked for behind the region -/
noncomputable def compRegion (N D : Nat) (ops : Array Oper) : List Oper → Al → Ops
  | [], _ => hE
  | o :: l, A => ifB (dstOk N o.dst) (match o.guard, o.dst with
    | none, some d => killK d A fun A' => ifB (D.testBit d) (match isMv o.op with
        | some x => onK A x fun src => compRegion N D ops l (ifB (isTmp d src) A' ((d, src) :: A'))
        | none => hI d (compOp P A o) fun v => compRegion N D ops l ((d, .val v) :: A'))
      (hS d (compOp P A o) fun v => compRegion N D ops l ((d, .val v) :: A'))
    | none, none => hN (compOp P A o) (compRegion N D ops l A)
    | some (j, b), some d => killK d A fun A' => match compO A (.tmp (slotOf ops j)) with
      | none => opsBad
      | some g => ifB (D.testBit d) (gI g (bN1 b) d (compOp P A o) fun v => compRegion N D ops l ((d, .val v) :: A'))
        (gS g (bN1 b) d (compOp P A o) fun v => compRegion N D ops l ((d, .val v) :: A'))
    | some (j, b), none => match compO A (.tmp (slotOf ops j)) with
      | none => opsBad
      | some g => gN g (bN1 b) (compOp P A o) (compRegion N D ops l A)) opsBad

/-- 0 only reads, 1 lays a new block, 2 whatever else -/
def clsOf : Op → Nat
  | .alloc _ | .box .. | .buildSlice .. | .makeSlice .. => 1
  | .store .. | .mapUpdate .. | .insert .. | .makeMap .. => 2
  | .convert .. => 0
  | .call c => match c.callee with
    | .builtin .len | .builtin .cap | .builtin .min | .builtin .max => 0
    | _ => 2
  | _ => 0

/-- the slots that an operation asks for -/
def usOf (o : Oper) : List Nat := o.op.operands.toList.filterMap fun | .tmp t => some t | _ => none
noncomputable def compDI (D : Nat) (ops : Array Oper) (bef : Nat) (o : Oper) : DI :=
  { cls := clsOf o.op, bef := bef, us := usOf o, o := compOp P [] o,
    g := match o.guard with | none => 0 | some (j, b) => 1 + (2 * slotOf ops j + bN1 b),
    d := match o.dst with | none => 0 | some d => if D.testBit d then 0 else 1 + d }

def seqN {α : Type} (n : Nat) (k : Nat → α) : α := Nat.rec (motive := fun _ => α) (k 0) (fun p _ => k (Nat.succ p)) n
/-- what stands ahead of an operation: of what stands ahead of those ahead of it -/
def edgeMask (acc : List Nat) : List Edge → Nat
  | [] => 0
  | e :: es => if Region.binds .any e then 2 ^ e.on ||| (acc.getD e.on 0 ||| edgeMask acc es) else edgeMask acc es
def appK {α β : Type} (x : α) : List α → (List α → β) → β
  | [], k => k [x]
  | y :: l, k => appK x l fun l' => k (y :: l')
def masks : List Oper → List Nat → List Nat
  | [], acc => acc
  | o :: l, acc => seqN (edgeMask acc o.after.toList) fun m => appK m acc fun acc' => masks l acc'
/-- the slots that an operation names -/
def namesOf (ops : Array Oper) (o : Oper) : List Nat := o.dst.toList ++ (match o.guard with | none => [] | some (j, _) => [slotOf ops j]) ++ usOf o
def hits (d : Option Nat) (l : List Nat) : Bool := match d with | none => false | some d => l.any fun t => t == d
/-- each of these that writes what o names, or names what o writes, stands ahead of o -/
def tmpOk1 (d : Option Nat) (names : List Nat) (m : Nat) : List (Option Nat × List Nat) → Nat → Bool
  | [], _ => true
  | p :: l, i => ((!(hits p.1 names) && !(hits d p.2)) || m.testBit i) && tmpOk1 d names m l (i + 1)
def tmpOk (ops : Array Oper) : List (Oper × Nat) → List (Option Nat × List Nat) → Bool
  | [], _ => true
  | p :: l, acc => tmpOk1 p.1.dst (namesOf ops p.1) p.2 acc 0 && appK (p.1.dst, namesOf ops p.1) acc fun acc' => tmpOk ops l acc'

/-- may a region that draws be taken? -/
def drawOk (ops : Array Oper) : Bool :=
  ops.size ≤ 200 && tmpOk ops (ops.toList.zip (masks ops.toList [])) [] &&
  ops.toList.zipIdx.all (fun (o, i) => o.after.all (fun e => !Region.binds .any e || e.on < i)) &&
  ops.toList.all (fun o => match o.guard with | none => true | some (j, _) => o.after.any fun e => e.on == j && Region.binds .any e)

/-- bodies of loops over functions are numbered as they stand: n: the next number; the code, the numbers, the bodies -/
noncomputable def compCode (N D : Nat) : Code → Nat → Cc × Nat × List (Cc × Cc)
  | .skip, n | .label _, n => (cSkip, n, [])
  | .region _ ops false, n => (cOps (compRegion P N D ops ops.toList []), n, [])
  | .region _ ops true, n => (ifB (drawOk ops && ops.toList.all (fun o => dstOk N o.dst)) (cDraw ((ops.toList.zip (masks ops.toList [])).map fun p => compDI P D ops p.2 p.1)) (cBad 24), n, [])
  | .seq a b, n => let x := compCode N D a n; let y := compCode N D b x.2.1; (cSeq x.1 y.1, y.2.1, x.2.2 ++ y.2.2)
  | .cond c a b, n => let x := compCode N D a n; let y := compCode N D b x.2.1; ((match compO [] c with | some c => cCond c x.1 y.1 | none => cBad 0), y.2.1, x.2.2 ++ y.2.2)
  | .block id b, n => let x := compCode N D b n; (cBlock id x.1, x.2)
  | .loop b, n => let x := compCode N D b n; (cLoop x.1, x.2)
  | .exit id, n => (cExit id, n, [])
  | .ret, n => (cRet, n, [])
  | .scope _, n => (cBad 20, n, [])
  | .rangeFunc f ps a b, n => let x := compCode N D a (n + 1); let y := compCode N D b x.2.1;
      ((match compO [] f with | some f => ifB (ps.toList.all (fun t => !D.testBit t && decide (t < N))) (cRange f ps.toList n) (cBad 0) | none => cBad 0), y.2.1, (ifB (x.2.2 ++ y.2.2).isEmpty (x.1, y.1) (cBad 25, cBad 25)) :: (x.2.2 ++ y.2.2))
  | .goto _, n => (cBad 22, n, [])
  | .refuse _, n => (cBad 23, n, [])

/-- the loops over functions of a code, as they are numbered -/
def loopsOf : Code → Nat → Nat × List (Nat × Code × Code)
  | .seq a b, n | .cond _ a b, n => let x := loopsOf a n; let y := loopsOf b x.1; (y.1, x.2 ++ y.2)
  | .block _ b, n | .loop b, n => loopsOf b n
  | .rangeFunc _ _ a b, n => let x := loopsOf a (n + 1); let y := loopsOf b x.1; (y.1, (n, a, b) :: (x.2 ++ y.2))
  | _, n => (n, [])

noncomputable def compRes : ResultVar → Rs
  | .tmp t => rTmp t
  | .cell a t => match isAggT P t with
    | some true => rCellN a (P.cellsOf t)
    | some false => rCell1 a
    | none => rBad

/-- a function, whose first loop over a function has number n; D: its slots that are never asked for -/
noncomputable def compFn (f : Func) (D n : Nat) : Fn := match f.body with
  | some c => ifB ((List.range (f.params.size + f.nfree)).all (fun t => !D.testBit t) && decide (f.params.size + f.nfree ≤ f.ntmps) && decide (f.ntmps ≤ 1000000))
      (fCode (f.params.size + f.nfree) (compCode P f.ntmps D c n).1 (f.results.toList.map (compRes P))) fBad
  | none => fBad
noncomputable def compBodies (f : Func) (D n : Nat) : List (Cc × Cc) := match f.body with
  | some c => (compCode P f.ntmps D c n).2.2
  | none => []
end

end Go.Lm
