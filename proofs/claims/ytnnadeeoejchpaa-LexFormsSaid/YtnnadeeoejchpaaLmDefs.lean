/- The evaluator 'ev': the IR of the model, run over a memory of its own with addresses of its own. It answers 'none' wherever it does not know. -/
import GoSem.Claims
set_option linter.all false
namespace Go.Lm

noncomputable def bs {α : Type} (b : Bool) (x y : α) : α := Bool.rec (motive := fun _ => α) y x b

/-! numbers as roads, tries -/
inductive Pth where
  | h | l (p : Pth) | r (p : Pth)

noncomputable def pthF (f : Nat) : Nat → Pth :=
  Nat.rec (motive := fun _ => Nat → Pth) (fun _ => .h)
    (fun _ ih i => Nat.rec (motive := fun _ => Pth) .h (fun k _ => bs (Nat.beq (Nat.mod k 2) 0) (.l (ih (Nat.div k 2))) (.r (ih (Nat.div k 2)))) i) f
noncomputable def pth (i : Nat) : Pth := pthF (Nat.succ (Nat.succ (Nat.log2 i))) i

inductive T (α : Type) where
  | nl
  | nd (l : T α) (v : Option α) (r : T α)

noncomputable def T.lft {α : Type} (t : T α) : T α := T.rec (motive := fun _ => T α) .nl (fun l _ _ _ _ => l) t
noncomputable def T.rgt {α : Type} (t : T α) : T α := T.rec (motive := fun _ => T α) .nl (fun _ _ r _ _ => r) t
noncomputable def T.top {α : Type} (t : T α) : Option α := T.rec (motive := fun _ => Option α) none (fun _ v _ _ _ => v) t
noncomputable def T.getP {α : Type} (p : Pth) : T α → Option α :=
  Pth.rec (motive := fun _ => T α → Option α) T.top (fun _ ih t => ih t.lft) (fun _ ih t => ih t.rgt) p
noncomputable def T.setP {α : Type} (p : Pth) : T α → α → T α :=
  Pth.rec (motive := fun _ => T α → α → T α) (fun t a => .nd t.lft (some a) t.rgt) (fun _ ih t a => .nd (ih t.lft a) t.top t.rgt) (fun _ ih t a => .nd t.lft t.top (ih t.rgt a)) p
noncomputable def T.get {α : Type} (t : T α) (i : Nat) : Option α := T.getP (pth i) t
noncomputable def T.set {α : Type} (t : T α) (i : Nat) (a : α) : T α := T.setP (pth i) t a
noncomputable def T.setL {α : Type} (l : List α) : T α → Nat → T α :=
  List.rec (motive := fun _ => T α → Nat → T α) (fun t _ => t) (fun a _ ih t i => ih (t.set i a) (Nat.succ i)) l

/-! values. t: what it is: 0 false · 1 true · 3 string (s) · 4 pointer (block a, place b) · 5 nil pointer · 6 slice (block a, place b, length c, capacity at least d) · 7 nil slice ·
8 slice whose capacity is its length · 9 map (a) · 10 nil map · 11 function (a; captured l) · 12 nil function · 13 cells l · 14 tuple l · 15 the yield of a loop (a) ·
16 + 2 * kind: an int not below 0 (a) · 17 + 2 * kind: an int below 0 (-(a+1)) -/
structure V where
  t : Nat
  a : Nat
  b : Nat
  c : Nat
  d : Nat
  s : List Nat
  l : List V

abbrev vT : V := ⟨1, 0, 0, 0, 0, [], []⟩
abbrev vF : V := ⟨0, 0, 0, 0, 0, [], []⟩
abbrev vInt (t n : Nat) : V := ⟨t, n, 0, 0, 0, [], []⟩
abbrev vStr (s : List Nat) : V := ⟨3, 0, 0, 0, 0, s, []⟩
abbrev vPtr (a b : Nat) : V := ⟨4, a, b, 0, 0, [], []⟩
abbrev vNilP : V := ⟨5, 0, 0, 0, 0, [], []⟩
abbrev vSl (a b c d : Nat) : V := ⟨6, a, b, c, d, [], []⟩
abbrev vNilS : V := ⟨7, 0, 0, 0, 0, [], []⟩
abbrev vSx (a b c : Nat) : V := ⟨8, a, b, c, c, [], []⟩
abbrev vMap (a : Nat) : V := ⟨9, a, 0, 0, 0, [], []⟩
abbrev vNilM : V := ⟨10, 0, 0, 0, 0, [], []⟩
abbrev vFn (a : Nat) (l : List V) : V := ⟨11, a, 0, 0, 0, [], l⟩
abbrev vNilF : V := ⟨12, 0, 0, 0, 0, [], []⟩
abbrev vAgg (l : List V) : V := ⟨13, 0, 0, 0, 0, [], l⟩
abbrev vTup (l : List V) : V := ⟨14, 0, 0, 0, 0, [], l⟩
abbrev vYield (a : Nat) : V := ⟨15, a, 0, 0, 0, [], []⟩
def undefV : V := vTup []

noncomputable def V.cells (v : V) : List V := bs (Nat.beq v.t 13) v.l [v]
/-- no tuple -/
noncomputable def V.plain (v : V) : Bool := bs (Nat.beq v.t 14) false true

/-- kinds by their numbers -/
def kOf (n : Nat) : IntKind := match n with
  | 16 => .i64 | 18 => .u8 | 20 => .i8 | 22 => .i16 | 24 => .i32 | 26 => .u16 | 28 => .u32 | _ => .u64
def ofK : IntKind → Nat
  | .i64 => 16 | .u8 => 18 | .i8 => 20 | .i16 => 22 | .i32 => 24 | .u16 => 26 | .u32 => 28 | .u64 => 30
def maxK (n : Nat) : Nat := match n with
  | 16 => 9223372036854775807 | 18 => 255 | 20 => 127 | 22 => 32767 | 24 => 2147483647 | 26 => 65535 | 28 => 4294967295 | _ => 18446744073709551615

/-! memory. t: 0 own cells · 1 cells that are only read · 2 a map · 3 a loop (c: its frame; size: which body; ps: its parameters; m: 0 ready, 1 in a round, 2 left; esz: how it was left: 0 not, 1 return, 2 + n exit n) · 4 dead.
Of cells: m: 0: they are a list (fl), else a trie (c), of which those below size are -/
structure Cell where
  t : Nat
  m : Nat
  fl : List V
  c : T V
  size : Nat
  esz : Nat
  es : List (V × V)
  ps : List Nat
structure St where
  h : T Cell
  n : Nat

def deadC : Cell := ⟨4, 0, [], .nl, 0, 0, [], []⟩
noncomputable def gc (o : Option Cell) : Cell := Option.rec (motive := fun _ => Cell) deadC (fun c => c) o
noncomputable def St.at (s : St) (i : Nat) : Cell := gc (s.h.get i)

abbrev Env := T V
abbrev Res := Option (V × St)
abbrev K := V → St → Res
abbrev Caller := V → List V → St → K → Res
abbrev KV := V → Res
abbrev Od := Env → KV → Res
abbrev Opr := Caller → Env → St → K → Res
abbrev KE := Env → St → Res

/-- T.set, strictly -/
noncomputable def T.setPK {α : Type} (p : Pth) : T α → α → (T α → Res) → Res :=
  Pth.rec (motive := fun _ => T α → α → (T α → Res) → Res)
    (fun t a k => T.rec (motive := fun _ => Res) (k (.nd .nl (some a) .nl)) (fun l _ r _ _ => k (.nd l (some a) r)) t)
    (fun _ ih t a k => T.rec (motive := fun _ => Res) (ih .nl a fun l' => k (.nd l' none .nl)) (fun l v r _ _ => ih l a fun l' => k (.nd l' v r)) t)
    (fun _ ih t a k => T.rec (motive := fun _ => Res) (ih .nl a fun r' => k (.nd .nl none r')) (fun l v r _ _ => ih r a fun r' => k (.nd l v r')) t) p
noncomputable def T.setK {α : Type} (t : T α) (i : Nat) (a : α) (k : T α → Res) : Res := T.setPK (pth i) t a k
noncomputable def T.setLK {α : Type} (l : List α) : T α → Nat → (T α → Res) → Res :=
  List.rec (motive := fun _ => T α → Nat → (T α → Res) → Res) (fun t _ k => k t) (fun a _ ih t i k => t.setK i a fun t => ih t (Nat.succ i) k) l

/-! lists, as they are written -/
noncomputable def normK {α : Type} (l : List α) : (List α → Res) → Res := List.rec (motive := fun _ => (List α → Res) → Res) (fun k => k []) (fun a _ ih k => ih fun l => k (a :: l)) l
noncomputable def dropK (n : Nat) : List V → (List V → Res) → Res :=
  Nat.rec (motive := fun _ => List V → (List V → Res) → Res) (fun l k => k l) (fun _ ih l k => List.rec (motive := fun _ => Res) (k []) (fun _ r _ => ih r k) l) n
noncomputable def takeK (n : Nat) : List V → (List V → Res) → Res :=
  Nat.rec (motive := fun _ => List V → (List V → Res) → Res) (fun _ k => k []) (fun _ ih l k => List.rec (motive := fun _ => Res) none (fun a r _ => ih r fun l => k (a :: l)) l) n
noncomputable def catK (l : List V) : List V → (List V → Res) → Res :=
  List.rec (motive := fun _ => List V → (List V → Res) → Res) (fun m k => k m) (fun a _ ih m k => ih m fun l => k (a :: l)) l
/-- vs in the place of what stands at o -/
noncomputable def overK (o : Nat) : List V → List V → (List V → Res) → Res :=
  Nat.rec (motive := fun _ => List V → List V → (List V → Res) → Res)
    (fun l vs k => List.rec (motive := fun _ => List V → (List V → Res) → Res) (fun l k => k l) (fun v _ ih l k => List.rec (motive := fun _ => Res) none (fun _ r _ => ih r fun l => k (v :: l)) l) vs l k)
    (fun _ ih l vs k => List.rec (motive := fun _ => Res) none (fun a r _ => ih r vs fun l => k (a :: l)) l) o

noncomputable def ot (i : Nat) : Od := fun e k => Option.rec (motive := fun _ => Res) none k (e.get i)
def oc (v : V) : Od := fun _ k => k v
noncomputable def evL (l : List Od) : Env → (List V → Res) → Res :=
  List.rec (motive := fun _ => Env → (List V → Res) → Res) (fun _ k => k []) (fun x _ ih e k => x e fun v => ih e fun vs => k (v :: vs)) l

/-- n cells from i on -/
noncomputable def getL (n : Nat) (t : T V) : Nat → (List V → Res) → Res :=
  Nat.rec (motive := fun _ => Nat → (List V → Res) → Res) (fun _ k => k [])
    (fun _ ih i k => Option.rec (motive := fun _ => Res) none (fun v => ih (Nat.succ i) fun l => k (v :: l)) (t.get i)) n

/-- a number, as it is written -/
noncomputable def fN (n : Nat) (k : Nat → Res) : Res := Nat.rec (motive := fun _ => Res) (k 0) (fun p _ => k (Nat.succ p)) n
noncomputable def chk (b : Bool) (k : Res) : Res := bs b k none

noncomputable def ofInt (kd : Nat) (n : Int) (f : KV) : Res :=
  Int.rec (motive := fun _ => Res) (fun m => fN m fun m => f (vInt kd m)) (fun m => fN m fun m => f (vInt (Nat.succ kd) m)) n
/-- wrapped -/
noncomputable def wrapI (kd : Nat) (n : Int) (f : KV) : Res := ofInt kd ((kOf kd).wrap n) f
/-- as an Int; not an int of that kind: none -/
noncomputable def toI (kd : Nat) (x : V) (f : Int → Res) : Res := bs (Nat.beq x.t kd) (f (.ofNat x.a)) (chk (Nat.beq x.t (Nat.succ kd)) (f (.negSucc x.a)))
noncomputable def two (kd : Nat) (x y : V) (f : Int → Int → Res) : Res := toI kd x fun a => toI kd y fun b => f a b
/-- both not below 0? -/
noncomputable def nn (kd : Nat) (x y : V) : Bool := Nat.beq (Nat.add (Nat.mul x.t 64) y.t) (Nat.mul kd 65)
noncomputable def addI (kd : Nat) (x y : V) (f : KV) : Res :=
  bs (nn kd x y) (bs (Nat.ble (Nat.add x.a y.a) (maxK kd)) (fN (Nat.add x.a y.a) fun n => f (vInt kd n)) (two kd x y fun a b => wrapI kd (Int.add a b) f)) (two kd x y fun a b => wrapI kd (Int.add a b) f)
noncomputable def subI (kd : Nat) (x y : V) (f : KV) : Res :=
  bs (nn kd x y) (bs (Nat.ble y.a x.a) (bs (Nat.ble x.a (maxK kd)) (fN (Nat.sub x.a y.a) fun n => f (vInt kd n)) (two kd x y fun a b => wrapI kd (Int.sub a b) f)) (two kd x y fun a b => wrapI kd (Int.sub a b) f)) (two kd x y fun a b => wrapI kd (Int.sub a b) f)
noncomputable def mulI (kd : Nat) (x y : V) (f : KV) : Res := two kd x y fun a b => wrapI kd (Int.mul a b) f
noncomputable def isZ (y : V) (kd : Nat) : Bool := bs (Nat.beq y.t kd) (Nat.beq y.a 0) false
noncomputable def quoI (kd : Nat) (x y : V) (f : KV) : Res := bs (isZ y kd) none (two kd x y fun a b => wrapI kd (Int.tdiv a b) f)
noncomputable def remI (kd : Nat) (x y : V) (f : KV) : Res := bs (isZ y kd) none (two kd x y fun a b => ofInt kd (Int.tmod a b) f)
/-- an int not below 0 -/
noncomputable def eqZ (x y : V) : Bool := bs (Nat.beq x.t y.t) (Nat.beq x.a y.a) false
noncomputable def vB (b : Bool) (f : KV) : Res := bs b (f vT) (f vF)
noncomputable def leI (kd : Nat) (x y : V) (f : Bool → Res) : Res :=
  bs (nn kd x y) (f (Nat.ble x.a y.a)) (two kd x y fun a b => f (decide (a ≤ b)))
noncomputable def eqI (kd : Nat) (x y : V) (f : Bool → Res) : Res := two kd x y fun _ _ => f (eqZ x y)
noncomputable def nB (b : Bool) : Bool := bs b false true

noncomputable def eqNs (l : List Nat) : List Nat → Bool :=
  List.rec (motive := fun _ => List Nat → Bool) (fun m => List.rec (motive := fun _ => Bool) true (fun _ _ _ => false) m)
    (fun a _ ih m => List.rec (motive := fun _ => Bool) false (fun b m _ => bs (Nat.beq a b) (ih m) false) m) l
noncomputable def ltNs (l : List Nat) : List Nat → Bool :=
  List.rec (motive := fun _ => List Nat → Bool) (fun m => List.rec (motive := fun _ => Bool) false (fun _ _ _ => true) m)
    (fun a _ ih m => List.rec (motive := fun _ => Bool) false (fun b m _ => bs (Nat.beq a b) (ih m) (Nat.ble (Nat.succ a) b)) m) l

/-- values without depth, of one type: 1 one, 0 another, 2: not known -/
noncomputable def eqFlat (x y : V) : Nat :=
  bs (Nat.beq x.t 3) (bs (Nat.beq y.t 3) (bs (eqNs x.s y.s) 1 0) 2)
    (bs (Nat.ble x.t 1) (bs (Nat.ble y.t 1) (bs (Nat.beq x.t y.t) 1 0) 2)
      (bs (Nat.ble 16 x.t) (bs (Nat.beq (Nat.div x.t 2) (Nat.div y.t 2)) (bs (eqZ x y) 1 0) 2) 2))
/-- is v a bool (kc 0), a string (1), else an int of that kind? -/
noncomputable def mapKey (kc : Nat) (v : V) : Bool := bs (Nat.beq kc 0) (Nat.ble v.t 1) (bs (Nat.beq kc 1) (Nat.beq v.t 3) (bs (Nat.beq v.t kc) true (Nat.beq v.t (Nat.succ kc))))
noncomputable def eqFlats (kcs : List Nat) : List V → List V → Nat :=
  List.rec (motive := fun _ => List V → List V → Nat)
    (fun l m => List.rec (motive := fun _ => Nat) (List.rec (motive := fun _ => Nat) 1 (fun _ _ _ => 2) m) (fun _ _ _ => 2) l)
    (fun kc _ ih l m => List.rec (motive := fun _ => Nat) 2 (fun a l _ => List.rec (motive := fun _ => Nat) 2
      (fun b m _ => bs (mapKey kc a) (Nat.rec (motive := fun _ => Nat) 0 (fun p _ => Nat.rec (motive := fun _ => Nat) (ih l m) (fun _ _ => 2) p) (eqFlat a b)) 2) m) l) kcs
/-- by an answer 0, 1, 2 -/
noncomputable def by3 (n : Nat) (k : Bool → Res) : Res := Nat.rec (motive := fun _ => Res) (k false) (fun p _ => Nat.rec (motive := fun _ => Res) (k true) (fun _ _ => none) p) n

/-! blocks -/
def small : Nat := 16
/-- a new block of these cells -/
noncomputable def newC (l : List V) (esz : Nat) (k : Cell → Res) : Res :=
  normK l fun l => fN l.length fun n => bs (Nat.ble n small) (k ⟨0, 0, l, .nl, n, esz, [], []⟩) (T.setLK l .nl 0 fun c => k ⟨0, 1, [], c, n, esz, [], []⟩)
/-- a new block: its number -/
noncomputable def newK (s : St) (c : Cell) (k : Nat → St → Res) : Res := s.h.setK s.n c fun h => fN (Nat.succ s.n) fun n' => k s.n ⟨h, n'⟩
noncomputable def newB (s : St) (l : List V) (esz : Nat) (k : Nat → St → Res) : Res := newC l esz fun c => newK s c k

noncomputable def nthV (l : List V) : Nat → (V → Res) → Res := List.rec (motive := fun _ => Nat → (V → Res) → Res) (fun _ _ => none) (fun a _ ih i k => Nat.rec (motive := fun _ => Res) (k a) (fun i _ => ih i k) i) l
noncomputable def load1 (c : Cell) (o : Nat) (k : V → Res) : Res :=
  Cell.rec (motive := fun _ => Res) (fun t m fl c size _ _ _ => chk (Nat.ble t 1) (bs (Nat.beq m 0) (nthV fl o k) (chk (Nat.ble (Nat.succ o) size) (Option.rec (motive := fun _ => Res) none k (c.get o))))) c
noncomputable def loadL (c : Cell) (o n : Nat) (k : List V → Res) : Res :=
  Cell.rec (motive := fun _ => Res) (fun t m fl c size _ _ _ => chk (Nat.ble t 1) (bs (Nat.beq m 0) (dropK o fl fun l => takeK n l k) (chk (Nat.ble (Nat.add o n) size) (getL n c o k)))) c
noncomputable def storeL (s : St) (a o : Nat) (vs : List V) (k : St → Res) : Res :=
  Cell.rec (motive := fun _ => Res) (fun t m fl c size esz _ _ => chk (Nat.beq t 0)
    (bs (Nat.beq m 0) (overK o fl vs fun fl => s.h.setK a ⟨0, 0, fl, .nl, size, esz, [], []⟩ fun h => k ⟨h, s.n⟩)
      (chk (Nat.ble (Nat.add o vs.length) size) (T.setLK vs c o fun c => s.h.setK a ⟨0, 1, [], c, size, esz, [], []⟩ fun h => k ⟨h, s.n⟩)))) (s.at a)

def putAt (cells : List V) (o : Nat) (v : List V) : List V := cells.take o ++ v ++ cells.drop (o + v.length)
noncomputable def fillP (parts : List (Nat × Nat)) : List V → List V → (List V → Res) → Res :=
  List.rec (motive := fun _ => List V → List V → (List V → Res) → Res)
    (fun vs cells k => List.rec (motive := fun _ => Res) (k cells) (fun _ _ _ => none) vs)
    (fun p _ ih vs cells k => List.rec (motive := fun _ => Res) none
      (fun v vs _ => chk v.plain <| chk (Nat.beq v.cells.length p.2) (chk (Nat.ble (Nat.add p.1 p.2) cells.length) (ih vs (putAt cells p.1 v.cells) k))) vs) parts
noncomputable def rep (z : List V) (n : Nat) : List V := Nat.rec (motive := fun _ => List V) [] (fun _ ih => z ++ ih) n

def bytesV (s : List Nat) : List V := s.map fun b => vInt 18 b
noncomputable def bytesOf (l : List V) (k : List Nat → Res) : Res :=
  List.rec (motive := fun _ => (List Nat → Res) → Res) (fun k => k []) (fun v _ ih k => chk (Nat.beq v.t 18) (chk (Nat.ble v.a 255) (ih fun l => k (v.a :: l)))) l k

def lim : Nat := 1099511627776

noncomputable def grow (s : St) (esz len : Nat) (cells : List V) (k : K) : Res := newB s cells esz fun a s => fN len fun len => k (vSl a 0 len len) s

/-- the cells of a block from b up to o, and new ones: all of them sz -/
noncomputable def growC (m : Nat) (fl : List V) (c : T V) (b o sz esz : Nat) (new : List V) (k : Cell → Res) : Res :=
  bs (Nat.beq m 0)
    (dropK b fl fun l => takeK (Nat.sub o b) l fun old => bs (Nat.ble sz small) (catK old new fun l => k ⟨0, 0, l, .nl, sz, esz, [], []⟩)
      (T.setLK old .nl 0 fun c => T.setLK new c (Nat.sub o b) fun c => k ⟨0, 1, [], c, sz, esz, [], []⟩))
    (bs (Nat.beq b 0) (T.setLK new c o fun c => k ⟨0, 1, [], c, sz, esz, [], []⟩)
      (getL (Nat.sub o b) c b fun old => T.setLK old .nl 0 fun c => T.setLK new c (Nat.sub o b) fun c => k ⟨0, 1, [], c, sz, esz, [], []⟩))

/-- x (a slice) and n more -/
noncomputable def appendV (esz bytes : Nat) (s : St) (x : V) (n : Nat) (new : List V) (k : K) : Res :=
  bs (Nat.beq n 0) (k x s) <|
  chk (Nat.ble (Nat.mul (Nat.add x.c n) (Nat.succ bytes)) lim) <|
  bs (Nat.beq x.t 7) (grow s esz n new k) <|
  bs (Nat.beq x.t 8) (loadL (s.at x.a) x.b (Nat.mul x.c esz) fun old => grow s esz (Nat.add x.c n) (old ++ new) k) <|
  Cell.rec (motive := fun _ => Res) (fun t m fl c size esz' _ _ => chk (Nat.beq t 0) <| chk (Nat.ble (Nat.add x.b (Nat.mul x.c esz)) size) <| chk (Nat.beq esz' esz) <|
    fN (Nat.add x.b (Nat.mul x.c esz)) fun o => fN (Nat.add (Nat.mul x.c esz) new.length) fun sz => fN (Nat.add x.c n) fun len =>
      growC m fl c x.b o sz esz new fun c => s.h.setK x.a deadC fun h => newK ⟨h, s.n⟩ c fun a s => k (vSl a 0 len len) s) (s.at x.a)

noncomputable def isS (v : V) : Bool := bs (Nat.ble 6 v.t) (Nat.ble v.t 8) false

/-! operations -/
/-- true, false -/
noncomputable def bool (v : V) (y n : Res) : Res := Nat.rec (motive := fun _ => Res) n (fun p _ => Nat.rec (motive := fun _ => Res) y (fun _ _ => none) p) v.t
noncomputable def oMv (x : Od) : Opr := fun _ e s k => x e fun x => k x s
noncomputable def oPick (c a b : Od) : Opr := fun _ e s k => c e fun c => bool c (a e fun a => k a s) (b e fun b => k b s)
noncomputable def oBox (x : Od) : Opr := fun _ e s k => x e fun x => chk x.plain <| newB s x.cells 0 fun a s => k (vPtr a 0) s
noncomputable def oAlloc (l : List V) : Opr := fun _ e s k => newB s l 0 fun a s => k (vPtr a 0) s
noncomputable def oBuild (z : List V) (ps : List (Nat × Nat)) (xs : List Od) : Opr := fun _ e s k => evL xs e fun vs => fillP ps vs z fun l => normK l fun l => k (vAgg l) s
noncomputable def oBslice (esz n : Nat) (z : List V) (ps : List (Nat × Nat)) (xs : List Od) : Opr := fun _ e s k => evL xs e fun vs => fillP ps vs (rep z n) fun l => newB s l esz fun a s => k (vSl a 0 n n) s
noncomputable def oLoad1 (x : Od) : Opr := fun _ e s k => x e fun x => chk (Nat.beq x.t 4) (load1 (s.at x.a) x.b fun v => k v s)
noncomputable def oLoadN (n : Nat) (x : Od) : Opr := fun _ e s k => x e fun x => chk (Nat.beq x.t 4) (loadL (s.at x.a) x.b n fun l => k (vAgg l) s)
noncomputable def oStore (n : Nat) (a v : Od) : Opr := fun _ e s k => a e fun a => v e fun v => chk (Nat.beq a.t 4) <| chk v.plain <| (chk (Nat.beq v.cells.length n) (storeL s a.a a.b v.cells fun s => k undefV s))
noncomputable def oNilchk (x : Od) : Opr := fun _ e s k => x e fun x => chk (Nat.beq x.t 4) (k x s)

noncomputable def bI (f : V → V → KV → Res) (x y : Od) : Opr := fun _ e s k => x e fun x => y e fun y => f x y fun v => k v s
noncomputable def oAdd (k : Nat) : Od → Od → Opr := bI (addI k)
noncomputable def oSub (k : Nat) : Od → Od → Opr := bI (subI k)
noncomputable def oMul (k : Nat) : Od → Od → Opr := bI (mulI k)
noncomputable def oQuo (k : Nat) : Od → Od → Opr := bI (quoI k)
noncomputable def oRem (k : Nat) : Od → Od → Opr := bI (remI k)
noncomputable def oLss (k : Nat) : Od → Od → Opr := bI fun x y f => leI k y x fun b => vB (nB b) f
noncomputable def oLeq (k : Nat) : Od → Od → Opr := bI fun x y f => leI k x y fun b => vB b f
noncomputable def oGtr (k : Nat) : Od → Od → Opr := bI fun x y f => leI k x y fun b => vB (nB b) f
noncomputable def oGeq (k : Nat) : Od → Od → Opr := bI fun x y f => leI k y x fun b => vB b f
noncomputable def oEqI (k : Nat) : Od → Od → Opr := bI fun x y f => eqI k x y fun b => vB b f
noncomputable def oNeI (k : Nat) : Od → Od → Opr := bI fun x y f => eqI k x y fun b => vB (nB b) f
/-- shifted by a constant -/
noncomputable def oShr (kd n : Nat) (x : Od) : Opr := fun _ e s f => x e fun x => chk (Nat.beq x.t kd) (fN (Nat.shiftRight x.a n) fun n => f (vInt kd n) s)
noncomputable def bS (f : List Nat → List Nat → Bool) (x y : Od) : Opr := fun _ e s k => x e fun x => y e fun y => chk (Nat.beq x.t 3) (chk (Nat.beq y.t 3) (vB (f x.s y.s) fun v => k v s))
/-- a text as it is written -/
noncomputable def fS (l : List Nat) : (List Nat → Res) → Res := List.rec (motive := fun _ => (List Nat → Res) → Res) (fun k => k []) (fun a _ ih k => fN a fun a => ih fun l => k (a :: l)) l
noncomputable def oCat (x y : Od) : Opr := fun _ e s k => x e fun x => y e fun y => chk (Nat.beq x.t 3) (chk (Nat.beq y.t 3) (chk (Nat.ble (Nat.add x.s.length y.s.length) lim) (fS (x.s ++ y.s) fun l => k (vStr l) s)))
noncomputable def oEqS : Od → Od → Opr := bS fun a b => eqNs a b
noncomputable def oNeS : Od → Od → Opr := bS fun a b => nB (eqNs a b)
noncomputable def oLtS : Od → Od → Opr := bS fun a b => ltNs a b
noncomputable def oLeS : Od → Od → Opr := bS fun a b => nB (ltNs b a)
noncomputable def oGtS : Od → Od → Opr := bS fun a b => ltNs b a
noncomputable def oGeS : Od → Od → Opr := bS fun a b => nB (ltNs a b)
noncomputable def bB (f : Bool → Bool) (x y : Od) : Opr := fun _ e s k => x e fun x => y e fun y => chk (Nat.ble x.t 1) (chk (Nat.ble y.t 1) (vB (f (Nat.beq x.t y.t)) fun v => k v s))
noncomputable def oEqB : Od → Od → Opr := bB fun b => b
noncomputable def oNeB : Od → Od → Opr := bB nB
noncomputable def bG (f : Bool → Bool) (kcs : List Nat) (x y : Od) : Opr := fun _ e s k => x e fun x => y e fun y => chk (Nat.beq x.t 13) (chk (Nat.beq y.t 13) (by3 (eqFlats kcs x.l y.l) fun b => vB (f b) fun v => k v s))
noncomputable def oEqG : List Nat → Od → Od → Opr := bG fun b => b
noncomputable def oNeG : List Nat → Od → Od → Opr := bG nB
/-- a pointer or a slice against nil -/
noncomputable def bN (f : Bool → Bool) (nil hi : Nat) (x : Od) : Opr := fun _ e s k => x e fun x => bs (Nat.beq x.t nil) (vB (f true) fun v => k v s) (chk (bs (Nat.beq x.t (Nat.pred nil)) true (Nat.beq x.t hi)) (vB (f false) fun v => k v s))
noncomputable def oEqNP : Od → Opr := bN (fun b => b) 5 4
noncomputable def oNeNP : Od → Opr := bN nB 5 4
noncomputable def oEqNS : Od → Opr := bN (fun b => b) 7 8
noncomputable def oNeNS : Od → Opr := bN nB 7 8
noncomputable def oNot (x : Od) : Opr := fun _ e s k => x e fun x => bool x (k vF s) (k vT s)
noncomputable def oNeg (kd : Nat) (x : Od) : Opr := fun _ e s k => x e fun x => toI kd x fun a => wrapI kd (Int.sub 0 a) fun v => k v s
noncomputable def oConvI (src kd : Nat) (x : Od) : Opr := fun _ e s k => x e fun x => bs (Nat.beq x.t src) (bs (Nat.ble x.a (maxK kd)) (k (vInt kd x.a) s) (toI src x fun a => wrapI kd a fun v => k v s)) (toI src x fun a => wrapI kd a fun v => k v s)
noncomputable def oConvS (x : Od) : Opr := fun _ e s k => x e fun x => chk (Nat.beq x.t 3) (k x s)
noncomputable def oOfBytes (x : Od) : Opr := fun _ e s k => x e fun x => bs (Nat.beq x.t 7) (k (vStr []) s) (chk (isS x) (loadL (s.at x.a) x.b x.c fun l => bytesOf l fun b => k (vStr b) s))
noncomputable def oMkfn (f : Nat) (m : List Od) : Opr := fun _ e s k => evL m e fun l => k (vFn f l) s

noncomputable def findKey (key : V) (es : List (V × V)) : (V → Res) → Res → Res :=
  List.rec (motive := fun _ => (V → Res) → Res → Res) (fun _ n => n)
    (fun p _ ih y n => by3 (eqFlat key p.1) fun b => bs b (y p.2) (ih y n)) es
noncomputable def setKey (key v : V) (es : List (V × V)) : (List (V × V) → Res) → Res :=
  List.rec (motive := fun _ => (List (V × V) → Res) → Res) (fun k => k [(key, v)])
    (fun p r ih k => by3 (eqFlat key p.1) fun b => bs b (k ((p.1, v) :: r)) (ih fun r' => k (p :: r'))) es
noncomputable def oMkmap : Opr := fun _ _ s k => newK s ⟨2, 0, [], .nl, 0, 0, [], []⟩ fun a s => k (vMap a) s
noncomputable def oMapupd (kc : Nat) (m key v : Od) : Opr := fun _ e s k => m e fun m => key e fun key => v e fun v => chk (Nat.beq m.t 9) (chk (mapKey kc key) (chk (Nat.beq (s.at m.a).t 2)
  (setKey key v (s.at m.a).es fun es => s.h.setK m.a ⟨2, 0, [], .nl, 0, 0, es, []⟩ fun h => k undefV ⟨h, s.n⟩)))
noncomputable def oLookup (kc : Nat) (z : V) (m key : Od) (ok : Bool) : Opr := fun _ e s k => m e fun m => key e fun key => chk (Nat.beq m.t 9) (chk (mapKey kc key) (chk (Nat.beq (s.at m.a).t 2)
  (findKey key (s.at m.a).es (fun v => bs ok (k (vTup [v, vT]) s) (k v s)) (bs ok (k (vTup [z, vF]) s) (k z s)))))
noncomputable def oMkslice (esz bytes : Nat) (z : List V) (l c : Od) : Opr := fun _ e s k => l e fun l => c e fun c => chk (Nat.beq l.t 16) (chk (Nat.beq c.t 16) (chk (Nat.ble l.a c.a) (chk (Nat.ble (Nat.mul c.a (Nat.succ bytes)) lim)
  (newB s (rep z c.a) esz fun a s => k (vSl a 0 l.a c.a) s))))

/-- a bound that is told, or another one -/
noncomputable def bnd (o : Option Od) (e : Env) (d : Nat) (k : Nat → Res) : Res := Option.rec (motive := fun _ => Res) (k d) (fun x => x e fun x => chk (Nat.beq x.t 16) (k x.a)) o
noncomputable def oSliceS (x : Od) (lo hi : Option Od) : Opr := fun _ e s k => x e fun x => chk (Nat.beq x.t 3) (bnd hi e x.s.length fun h => bnd lo e 0 fun l =>
  chk (Nat.ble h x.s.length) (chk (Nat.ble l h) (fS ((x.s.take h).drop l) fun r => k (vStr r) s)))
/-- is a block one of elements of so many cells? -/
noncomputable def eszOk (c : Cell) (esz : Nat) : Bool := bs (Nat.ble c.t 1) (Nat.beq c.esz esz) false
noncomputable def slAt (tg : Nat) (a b l esz len cap : Nat) (s : St) (k : K) : Res := fN (Nat.add b (Nat.mul l esz)) fun b => fN len fun len => fN cap fun cap => k ⟨tg, a, b, len, cap, [], []⟩ s
noncomputable def oSliceL (esz : Nat) (x : Od) (lo hi : Option Od) : Opr := fun _ e s k => x e fun x => chk (isS x) (bnd hi e x.c fun h => bnd lo e 0 fun l =>
  chk (Nat.ble h x.d) (chk (Nat.ble l h) (bs (Nat.beq x.t 7) (k x s) (chk (Nat.beq x.t 6) (chk (bs (Nat.beq l 0) true (eszOk (s.at x.a) esz)) (slAt 6 x.a x.b l esz (Nat.sub h l) (Nat.sub x.d l) s k))))))
noncomputable def oSlice3 (esz : Nat) (x : Od) (lo hi : Option Od) (mx : Od) : Opr := fun _ e s k => x e fun x => mx e fun mx => chk (Nat.beq x.t 6) (bnd hi e x.c fun h => bnd lo e 0 fun l =>
  chk (Nat.beq mx.t 16) (chk (Nat.beq mx.a h) (chk (Nat.ble h x.d) (chk (Nat.ble l h) (slAt 8 x.a x.b l esz (Nat.sub h l) (Nat.sub h l) s k)))))
noncomputable def oSliceA (esz n : Nat) (x : Od) (lo hi : Option Od) : Opr := fun _ e s k => x e fun x => chk (Nat.beq x.t 4) (bnd hi e n fun h => bnd lo e 0 fun l =>
  chk (Nat.ble h n) (chk (Nat.ble l h) (chk (eszOk (s.at x.a) 0) (slAt 6 x.a x.b l esz (Nat.sub h l) (Nat.sub n l) s k))))
noncomputable def oFaddr (off : Nat) (x : Od) : Opr := fun _ e s k => x e fun x => chk (Nat.beq x.t 4) (fN (Nat.add x.b off) fun o => k (vPtr x.a o) s)
noncomputable def one (l : List V) (k : V → Res) : Res := List.rec (motive := fun _ => Res) none (fun v r _ => List.rec (motive := fun _ => Res) (k v) (fun _ _ _ => none) r) l
noncomputable def aggOr (agg : Bool) (l : List V) (k : V → Res) : Res := bs agg (k (vAgg l)) (one l k)
noncomputable def oField (agg : Bool) (off n : Nat) (x : Od) : Opr := fun _ e s k => x e fun x => chk (Nat.beq x.t 13) (chk (Nat.ble (Nat.add off n) x.l.length) (normK ((x.l.drop off).take n) fun l => aggOr agg l fun v => k v s))
/-- an int not below 0, of whatever kind -/
noncomputable def isIdx (v : V) : Bool := bs (Nat.ble 16 v.t) (Nat.beq (Nat.mod v.t 2) 0) false
noncomputable def oIaddrL (esz : Nat) (x i : Od) : Opr := fun _ e s k => x e fun x => i e fun i => chk (isS x) (chk (isIdx i) (chk (Nat.ble (Nat.succ i.a) x.c) (fN (Nat.add x.b (Nat.mul i.a esz)) fun o => k (vPtr x.a o) s)))
noncomputable def oIaddrA (n esz : Nat) (x i : Od) : Opr := fun _ e s k => x e fun x => i e fun i => chk (Nat.beq x.t 4) (chk (isIdx i) (chk (Nat.ble (Nat.succ i.a) n) (fN (Nat.add x.b (Nat.mul i.a esz)) fun o => k (vPtr x.a o) s)))
noncomputable def nth (l : List Nat) : Nat → (Nat → Res) → Res := List.rec (motive := fun _ => Nat → (Nat → Res) → Res) (fun _ _ => none) (fun a _ ih i k => Nat.rec (motive := fun _ => Res) (k a) (fun i _ => ih i k) i) l
noncomputable def oIndexS (x i : Od) : Opr := fun _ e s k => x e fun x => i e fun i => chk (Nat.beq x.t 3) (chk (isIdx i) (nth x.s i.a fun c => k (vInt 18 c) s))
noncomputable def oIndexA (n esz : Nat) (agg : Bool) (x i : Od) : Opr := fun _ e s k => x e fun x => i e fun i => chk (Nat.beq x.t 13) (chk (isIdx i) (chk (Nat.ble (Nat.succ i.a) n) (chk (Nat.ble (Nat.add (Nat.mul i.a esz) esz) x.l.length)
  (normK ((x.l.drop (Nat.mul i.a esz)).take esz) fun l => aggOr agg l fun v => k v s))))
noncomputable def oExtract (x : Od) (i : Nat) : Opr := fun _ e s k => x e fun x => chk (Nat.beq x.t 14) (nthV x.l i fun v => k v s)
noncomputable def oCallF (f : Nat) (args : List Od) : Opr := fun call e s k => evL args e fun l => call (vFn f []) l s k
noncomputable def oCallV (x : Od) (args : List Od) : Opr := fun call e s k => x e fun x => evL args e fun l => call x l s k
noncomputable def oLenS (x : Od) : Opr := fun _ e s k => x e fun x => chk (Nat.beq x.t 3) (fN x.s.length fun n => k (vInt 16 n) s)
noncomputable def oLenL (x : Od) : Opr := fun _ e s k => x e fun x => chk (isS x) (k (vInt 16 x.c) s)
noncomputable def oLenC (n : Nat) (x : Od) : Opr := fun _ e s k => k (vInt 16 n) s
noncomputable def oLenM (x : Od) : Opr := fun _ e s k => x e fun x => chk (Nat.beq x.t 9) (chk (Nat.beq (s.at x.a).t 2) (fN (s.at x.a).es.length fun n => k (vInt 16 n) s))
noncomputable def oAppend (esz bytes : Nat) (x y : Od) : Opr := fun _ e s k => x e fun x => y e fun y => chk (isS x) (bs (Nat.beq y.t 7) (k x s) (chk (isS y) (loadL (s.at y.a) y.b (Nat.mul y.c esz) fun l => appendV esz bytes s x y.c l k)))
noncomputable def oAppendS (bytes : Nat) (x y : Od) : Opr := fun _ e s k => x e fun x => y e fun y => chk (isS x) (chk (Nat.beq y.t 3) (appendV 1 bytes s x y.s.length (bytesV y.s) k))
noncomputable def oAppendZ (esz bytes : Nat) (z : List V) (x y : Od) : Opr := fun _ e s k => x e fun x => y e fun y => chk (isS x) (chk (Nat.beq y.t 16) (chk (Nat.ble (Nat.mul y.a (Nat.succ bytes)) lim) (appendV esz bytes s x y.a (rep z y.a) k)))
noncomputable def oCap (x : Od) : Opr := fun _ e s k => x e fun x => bs (Nat.beq x.t 7) (k (vInt 16 0) s) (chk (Nat.beq x.t 8) (k (vInt 16 x.c) s))
noncomputable def oMin (k : Nat) : Od → Od → Opr := bI fun x y f => leI k x y fun b => bs b (f x) (f y)
noncomputable def oMax (k : Nat) : Od → Od → Opr := bI fun x y f => leI k x y fun b => bs b (f y) (f x)
def oBad (_ : Nat) : Opr := fun _ _ _ _ => none

/-! a region: what an operation yields is handed on as a variable, and put into the frame where it is asked for behind the region -/
abbrev Ops := Caller → Env → St → KE → Res
def lv (v : V) : Od := fun _ k => k v
def hE : Ops := fun _ e s k => k e s
noncomputable def hI (_ : Nat) (o : Opr) (r : V → Ops) : Ops := fun call e s k => o call e s fun v s => r v call e s k
noncomputable def hS (d : Nat) (o : Opr) (r : V → Ops) : Ops := fun call e s k => o call e s fun v s => e.setK d v fun e => r v call e s k
noncomputable def hN (o : Opr) (r : Ops) : Ops := fun call e s k => o call e s fun _ s => r call e s k
noncomputable def want (v : V) (b : Nat) (y n : Res) : Res := bs (Nat.ble v.t 1) (bs (Nat.beq v.t b) y n) (chk (Nat.beq v.t 14) n)
noncomputable def gI (g : Od) (b : Nat) (_ : Nat) (o : Opr) (r : V → Ops) : Ops := fun call e s k => g e fun g => want g b (o call e s fun v s => r v call e s k) (r undefV call e s k)
noncomputable def gS (g : Od) (b : Nat) (d : Nat) (o : Opr) (r : V → Ops) : Ops := fun call e s k => g e fun g => want g b (o call e s fun v s => e.setK d v fun e => r v call e s k) (e.setK d undefV fun e => r undefV call e s k)
noncomputable def gN (g : Od) (b : Nat) (o : Opr) (r : Ops) : Ops := fun call e s k => g e fun g => want g b (o call e s fun _ s => r call e s k) (r call e s k)

/-! code -/
inductive Ex where
  | nrm | brk (id : Nat) | ret
abbrev KX := Ex → Env → St → Res
abbrev Cc := Caller → Env → St → KX → Res
noncomputable def exr (x : Ex) (a : Res) (b : Nat → Res) (c : Res) : Res := Ex.rec (motive := fun _ => Res) a b c x
def loopFuel : Nat := 1000000
noncomputable def cSkip : Cc := fun _ e s k => k .nrm e s
noncomputable def cOps (o : Ops) : Cc := fun call e s k => o call e s fun e s => k .nrm e s
noncomputable def cSeq (a b : Cc) : Cc := fun call e s k => a call e s fun x e s => exr x (b call e s k) (fun j => k (.brk j) e s) (k .ret e s)
noncomputable def cCond (c : Od) (a b : Cc) : Cc := fun call e s k => c e fun c => bool c (a call e s k) (b call e s k)
noncomputable def cBlock (id : Nat) (b : Cc) : Cc := fun call e s k => b call e s fun x e s => exr x (k .nrm e s) (fun j => bs (Nat.beq j id) (k .nrm e s) (k (.brk j) e s)) (k .ret e s)
noncomputable def cLoop (b : Cc) : Cc := Nat.rec (motive := fun _ => Cc) (fun _ _ _ _ => none) (fun _ ih call e s k => b call e s fun x e s => exr x (ih call e s k) (fun j => k (.brk j) e s) (k .ret e s)) loopFuel
noncomputable def cExit (id : Nat) : Cc := fun _ e s k => k (.brk id) e s
noncomputable def cRet : Cc := fun _ e s k => k .ret e s
def cBad (_ : Nat) : Cc := fun _ _ _ _ => none
/-- a loop over a function: its body's number, its parameters -/
noncomputable def cRange (x : Od) (ps : List Nat) (bid : Nat) : Cc := fun call e s k => x e fun x => chk (Nat.beq x.t 11) <|
  newK s ⟨3, 0, [], e, bid, 0, [], ps⟩ fun a s => call x [vYield a] s fun _ s' =>
    chk (Nat.beq (s'.at a).t 3) <| chk (bs (Nat.beq (s'.at a).m 0) true (Nat.beq (s'.at a).m 2)) <| s'.h.setK a deadC fun h =>
      Nat.rec (motive := fun _ => Res) (k .nrm e ⟨h, s'.n⟩) (fun p _ => Nat.rec (motive := fun _ => Res) (k .ret e ⟨h, s'.n⟩) (fun j _ => k (.brk j) e ⟨h, s'.n⟩) p) (s'.at a).esz

/-! a region that draws its order. cls: 0 only reads · 1 lays a new block · 2 whatever else; bef: what stands ahead (bits); g: 0, or 1 + 2 * slot + wanted; d: 0, or 1 + slot -/
structure DI where
  cls : Nat
  bef : Nat
  us : List Nat
  g : Nat
  d : Nat
  o : Opr
structure Side where
  j : Nat
  id : Nat
  c : Cell
structure Pend where
  j : Nat
  bef : Nat
  o : Opr
  e : Env
  v : V
structure Hist where
  j : Nat
  h : T Cell
noncomputable def eqV (x : V) : V → Bool :=
  V.rec (motive_1 := fun _ => V → Bool) (motive_2 := fun _ => List V → Bool)
    (fun t a b c d s _ ih y => bs (Nat.beq t y.t) (bs (Nat.beq a y.a) (bs (Nat.beq b y.b) (bs (Nat.beq c y.c) (bs (Nat.beq d y.d) (bs (eqNs s y.s) (ih y.l) false) false) false) false) false) false)
    (fun m => List.rec (motive := fun _ => Bool) true (fun _ _ _ => false) m)
    (fun _ _ ih1 ih2 m => List.rec (motive := fun _ => Bool) false (fun y m _ => bs (ih1 y) (ih2 m) false) m) x
noncomputable def addSides (mask : Nat) (l : List Side) (h : T Cell) : T Cell :=
  List.rec (motive := fun _ => T Cell) h (fun x _ ih => bs (Nat.testBit mask x.j) (ih.set x.id x.c) ih) l
noncomputable def keepSides (mask : Nat) (l : List Side) : List Side :=
  List.rec (motive := fun _ => List Side) [] (fun x _ ih => bs (Nat.testBit mask x.j) ih (x :: ih)) l
noncomputable def keepPend (j : Nat) (mask : Nat) (l : List Pend) : List Pend :=
  List.rec (motive := fun _ => List Pend) [] (fun x _ ih => bs (Nat.testBit mask x.j) ih (x :: ih)) l
def ret : K := fun v s => some (v, s)
noncomputable def obr (r : Res) (f : V → St → Res) : Res := Option.rec (motive := fun _ => Res) none (fun p => f p.1 p.2) r
/-- the slots that are asked for -/
noncomputable def subK (us : List Nat) (e : Env) : (Env → Res) → Res :=
  List.rec (motive := fun _ => (Env → Res) → Res) (fun k => k .nl) (fun t _ ih k => ih fun e' => Option.rec (motive := fun _ => Res) (k e') (fun v => e'.setK t v k) (e.get t)) us
/-- would it be the same earlier? -/
noncomputable def sameHist (call : Caller) (o : Opr) (e : Env) (n bef : Nat) (sides : List Side) (v : V) (l : List Hist) (k : Res) : Res :=
  List.rec (motive := fun _ => Res) k (fun x _ ih => bs (Nat.testBit bef x.j) ih (obr (o call e ⟨addSides bef sides x.h, n⟩ ret) fun v' _ => chk (eqV v v') ih)) l
/-- none of these blocks is there -/
noncomputable def noSides (l : List Side) (h : T Cell) (k : Res) : Res := List.rec (motive := fun _ => Res) k (fun x _ ih => Option.rec (motive := fun _ => Res) ih (fun _ => none) (h.get x.id)) l
/-- is it the same later? -/
noncomputable def samePend (call : Caller) (c : St) (sides : List Side) (l : List Pend) (k : Res) : Res :=
  List.rec (motive := fun _ => Res) k (fun x _ ih => obr (x.o call x.e ⟨addSides x.bef sides c.h, c.n⟩ ret) fun v' _ => chk (eqV x.v v') ih) l
noncomputable def allHist (bef : Nat) (l : List Hist) : Bool := List.rec (motive := fun _ => Bool) true (fun x _ ih => bs (Nat.testBit bef x.j) ih false) l
noncomputable def setD (e : Env) (d : Nat) (v : V) : Env := Nat.rec (motive := fun _ => Env) e (fun d _ => e.set d v) d
noncomputable def wantD (g : Nat) (e : Env) (y n : Res) : Res := Nat.rec (motive := fun _ => Res) y (fun g _ => ot (Nat.div g 2) e fun v => want v (Nat.mod g 2) y n) g
structure DS where
  e : Env
  c : St
  sides : List Side
  hist : List Hist
  pend : List Pend
/-- are the blocks that a value names below n? -/
noncomputable def okV (n : Nat) (v : V) : Bool :=
  V.rec (motive_1 := fun _ => Bool) (motive_2 := fun _ => Bool)
    (fun t a _ _ _ _ _ ih => bs (bs (Nat.beq t 4) true (bs (Nat.beq t 6) true (bs (Nat.beq t 8) true (bs (Nat.beq t 9) true (Nat.beq t 15))))) (bs (Nat.ble (Nat.succ a) n) ih false) ih)
    true (fun _ _ a b => bs a b false) v
noncomputable def dP (x : DI) (j : Nat) (call : Caller) (s : DS) (k : DS → Res) : Res := subK x.us s.e fun e =>
  obr (x.o call e ⟨addSides x.bef s.sides s.c.h, s.c.n⟩ ret) fun v _ => chk (okV s.c.n v) <| sameHist call x.o e s.c.n x.bef s.sides v s.hist
    (k ⟨setD s.e x.d v, s.c, s.sides, s.hist, ⟨j, x.bef, x.o, e, v⟩ :: s.pend⟩)
noncomputable def dF (x : DI) (j : Nat) (call : Caller) (s : DS) (k : DS → Res) : Res := subK x.us s.e fun e =>
  obr (x.o call e ⟨.nl, s.c.n⟩ ret) fun v s' => chk (Nat.beq s'.n (Nat.succ s.c.n)) (k ⟨setD s.e x.d v, ⟨s.c.h, s'.n⟩, ⟨j, s.c.n, s'.at s.c.n⟩ :: s.sides, s.hist, s.pend⟩)
noncomputable def dE (x : DI) (j : Nat) (call : Caller) (s : DS) (k : DS → Res) : Res := subK x.us s.e fun e =>
  chk (allHist x.bef s.hist) (obr (x.o call e ⟨addSides x.bef s.sides s.c.h, s.c.n⟩ ret) fun v c' => chk (Nat.ble s.c.n c'.n) <| noSides (keepSides x.bef s.sides) c'.h <|
    samePend call c' (keepSides x.bef s.sides) (keepPend j x.bef s.pend) (k ⟨setD s.e x.d v, c', keepSides x.bef s.sides, ⟨j, s.c.h⟩ :: s.hist, keepPend j x.bef s.pend⟩))
noncomputable def dStep (x : DI) (j : Nat) (call : Caller) (s : DS) (k : DS → Res) : Res :=
  wantD x.g s.e (Nat.rec (motive := fun _ => Res) (dP x j call s k) (fun p _ => Nat.rec (motive := fun _ => Res) (dF x j call s k) (fun _ _ => dE x j call s k) p) x.cls)
    (k ⟨setD s.e x.d undefV, s.c, s.sides, s.hist, s.pend⟩)
noncomputable def evD (l : List DI) : Nat → Caller → DS → (DS → Res) → Res :=
  List.rec (motive := fun _ => Nat → Caller → DS → (DS → Res) → Res) (fun _ _ s k => k s) (fun x _ ih j call s k => dStep x j call s fun s => ih (Nat.succ j) call s k) l
def allBits : Nat := 1606938044258990275541962092341162602522202993782792835301375  -- 2 ^ 200 - 1
noncomputable def cDraw (l : List DI) : Cc := fun call e s k => evD l 0 call ⟨e, s, [], [], []⟩ fun d => k .nrm d.e ⟨addSides allBits d.sides d.c.h, d.c.n⟩

/-! functions -/
abbrev Rs := Env → St → (V → Res) → Res
noncomputable def rTmp (t : Nat) : Rs := fun e _ k => ot t e k
noncomputable def rCell1 (t : Nat) : Rs := fun e s k => ot t e fun x => chk (Nat.beq x.t 4) (load1 (s.at x.a) x.b k)
noncomputable def rCellN (t n : Nat) : Rs := fun e s k => ot t e fun x => chk (Nat.beq x.t 4) (loadL (s.at x.a) x.b n fun l => k (vAgg l))
def rBad : Rs := fun _ _ _ => none
noncomputable def resL (l : List Rs) : Env → St → (List V → Res) → Res :=
  List.rec (motive := fun _ => Env → St → (List V → Res) → Res) (fun _ _ k => k []) (fun r _ ih e s k => r e s fun v => ih e s fun l => k (v :: l)) l
noncomputable def oneOf (l : List V) : V := List.rec (motive := fun _ => V) undefV (fun v r _ => List.rec (motive := fun _ => V) v (fun _ _ _ => vTup l) r) l
abbrev Fn := Caller → List V → St → K → Res
noncomputable def fCode (np : Nat) (body : Cc) (res : List Rs) : Fn := fun call args s k => chk (Nat.beq args.length np) <| T.setLK args .nl 0 fun e => body call e s fun x e s => exr x (resL res e s fun l => k (oneOf l) s) (fun _ => none) (resL res e s fun l => k (oneOf l) s)
def fBad : Fn := fun _ _ _ _ => none

/-- a loop's body is run once more -/
noncomputable def setPs (ps : List Nat) : List V → Env → (Env → Res) → Res :=
  List.rec (motive := fun _ => List V → Env → (Env → Res) → Res) (fun vs e k => List.rec (motive := fun _ => Res) (k e) (fun _ _ _ => none) vs)
    (fun p _ ih vs e k => List.rec (motive := fun _ => Res) none (fun v vs _ => e.setK p v fun e => ih vs e k) vs) ps
noncomputable def endRound (s : St) (l left : Nat) (k : K) (ans : V) : Res :=
  Cell.rec (motive := fun _ => Res) (fun t _ _ c size _ _ ps => chk (Nat.beq t 3) (s.h.setK l ⟨3, bs (Nat.beq left 0) 0 2, [], c, size, left, [], ps⟩ fun h => k ans ⟨h, s.n⟩)) (s.at l)
noncomputable def begRound (s : St) (l : Nat) (k : St → Res) : Res :=
  Cell.rec (motive := fun _ => Res) (fun t m _ c size esz _ ps => chk (Nat.beq t 3) (chk (Nat.beq m 3) (s.h.setK l ⟨3, 1, [], c, size, esz, [], ps⟩ fun h => k ⟨h, s.n⟩))) (s.at l)
noncomputable def bod (o : Option (Cc × Cc)) (k : Cc → Cc → Res) : Res := Option.rec (motive := fun _ => Res) none (fun p => Prod.rec (motive := fun _ => Res) (fun a b => k a b) p) o
noncomputable def runRound (bodies : T (Cc × Cc)) (call : Caller) (l : Nat) (args : List V) (s : St) (k : K) : Res :=
  Cell.rec (motive := fun _ => Res) (fun t m _ c size esz _ ps => chk (Nat.beq t 3) (chk (Nat.beq m 0) (setPs ps args c fun e =>
    s.h.setK l ⟨3, 3, [], c, size, esz, [], ps⟩ fun h => bod (bodies.get size) fun as bo => as call e ⟨h, s.n⟩ fun x e s => exr x
      (begRound s l fun s => bo call e s fun x _ s' => exr x (endRound s' l 0 k vT) (fun j => endRound s' l (Nat.succ (Nat.succ j)) k vF) (endRound s' l 1 k vF))
      (fun _ => none) none))) (s.at l)

structure Prg where
  fns : T Fn
  bodies : T (Cc × Cc)

noncomputable def gf (o : Option Fn) : Fn := Option.rec (motive := fun _ => Fn) fBad (fun f => f) o

noncomputable def callStep (p : Prg) (call : Caller) : Caller := fun f args s k =>
  bs (Nat.beq f.t 11) (catK args f.l fun args => gf (p.fns.get f.a) call args s k) (chk (Nat.beq f.t 15) (runRound p.bodies call f.a args s k))
noncomputable def evCall (p : Prg) (n : Nat) : Caller := Nat.rec (motive := fun _ => Caller) (fun _ _ _ _ => none) (fun _ ih => callStep p ih) n

end Go.Lm
