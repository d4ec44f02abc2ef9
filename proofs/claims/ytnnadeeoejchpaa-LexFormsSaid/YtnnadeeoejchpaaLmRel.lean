/- How the evaluator's memory stands for the machine's. -/
import Derived.Test.YtnnadeeoejchpaaLmBasic
import Derived.CallsIn
import Derived.Laws.World
set_option linter.all false
namespace Go.Lm

/-- where a block lies -/
structure Pl where
  blk : Nat
  base : Nat
  own : Bool
  esz : Nat
  room : Nat

abbrev Rho := Nat → Option Pl
def Rho.le (ρ ρ' : Rho) : Prop := ∀ i p, ρ i = some p → ρ' i = some p
theorem Rho.le_refl (ρ : Rho) : ρ.le ρ := fun _ _ h => h
theorem Rho.le_trans {a b c : Rho} (h : a.le b) (h' : b.le c) : a.le c := fun i p x => h' i p (h i p x)
def Rho.put (ρ : Rho) (n : Nat) (p : Pl) : Rho := fun i => if i = n then some p else ρ i
theorem Rho.put_self (ρ : Rho) (n : Nat) (p : Pl) : ρ.put n p n = some p := by simp [Rho.put]
theorem Rho.le_put {ρ : Rho} {n : Nat} (p : Pl) (h : ρ n = none) : ρ.le (ρ.put n p) := fun i q hq => by
  by_cases e : i = n
  · subst e; rw [h] at hq; cases hq
  · simp [Rho.put, e, hq]

/-- the value of one cell -/
def atom : Value → Prop
  | .agg _ | .tuple _ => False
  | _ => True

mutual
inductive VR (ρ : Rho) : V → Value → Prop
  | f : VR ρ vF (.bool false)
  | t : VR ρ vT (.bool true)
  | int (k : IntKind) (n : Nat) : VR ρ (vInt (ofK k) n) (.int k (.ofNat n))
  | neg (k : IntKind) (n : Nat) : VR ρ (vInt (ofK k + 1) n) (.int k (.negSucc n))
  | str (s : ByteArray) : VR ρ (vStr (s.data.toList.map (·.toNat))) (.string s)
  | ptr {a b : Nat} {p : Pl} : ρ a = some p → VR ρ (vPtr a b) (.pointer (some ⟨p.blk, p.base + b, none⟩))
  | nilp : VR ρ vNilP (.pointer none)
  | sl {a b c d cap : Nat} {p : Pl} : ρ a = some p → c ≤ cap → d ≤ cap → (p.own = true → p.esz ≠ 0 → p.base + b + cap * p.esz ≤ p.room) →
      VR ρ (vSl a b c d) (.slice (some ⟨p.blk, p.base + b, none⟩) c cap)
  | sz {a b : Nat} {p : Pl} (x : Addr) : ρ a = some p → VR ρ (vSl a b 0 0) (.slice (some x) 0 0)
  | nils : VR ρ vNilS (.slice none 0 0)
  | sx {a b c : Nat} {p : Pl} : ρ a = some p → VR ρ (vSx a b c) (.slice (some ⟨p.blk, p.base + b, none⟩) c c)
  | sxz {a b : Nat} {p : Pl} (x : Addr) : ρ a = some p → VR ρ (vSx a b 0) (.slice (some x) 0 0)
  | map {a : Nat} {p : Pl} : ρ a = some p → p.own = true → VR ρ (vMap a) (.map (some p.blk))
  | nilm : VR ρ vNilM (.map none)
  | fn {f : Nat} {l : List V} {l' : List Value} : VRL ρ l l' → VR ρ (vFn f l) (.func (.func f) #[] ⟨l'⟩)
  | nf : VR ρ vNilF .nilFunc
  | agg {l : List V} {l' : List Value} : VRL ρ l l' → (∀ x ∈ l', atom x) → VR ρ (vAgg l) (.agg ⟨l'⟩)
  | tup {l : List V} {l' : List Value} : VRL ρ l l' → VR ρ (vTup l) (.tuple ⟨l'⟩)
  | yield {a : Nat} {p : Pl} : ρ a = some p → VR ρ (vYield a) (.func (.yield p.blk) #[] #[])
inductive VRL (ρ : Rho) : List V → List Value → Prop
  | nil : VRL ρ [] []
  | cons {v : V} {r : Value} {l : List V} {l' : List Value} : VR ρ v r → VRL ρ l l' → VRL ρ (v :: l) (r :: l')
end

mutual
theorem VR.mono {ρ ρ' : Rho} (h : ρ.le ρ') {v : V} {r : Value} : VR ρ v r → VR ρ' v r
  | .f => .f
  | .t => .t
  | .int k n => .int k n
  | .neg k n => .neg k n
  | .str s => .str s
  | .ptr x => .ptr (h _ _ x)
  | .nilp => .nilp
  | .sl x a b c => .sl (h _ _ x) a b c
  | .sz a x => .sz a (h _ _ x)
  | .nils => .nils
  | .sx x => .sx (h _ _ x)
  | .sxz a x => .sxz a (h _ _ x)
  | .map x o => .map (h _ _ x) o
  | .nilm => .nilm
  | .fn x => .fn (VRL.mono h x)
  | .nf => .nf
  | .agg x y => .agg (VRL.mono h x) y
  | .tup x => .tup (VRL.mono h x)
  | .yield x => .yield (h _ _ x)
theorem VRL.mono {ρ ρ' : Rho} (h : ρ.le ρ') {l : List V} {l' : List Value} : VRL ρ l l' → VRL ρ' l l'
  | .nil => .nil
  | .cons x y => .cons (VR.mono h x) (VRL.mono h y)
end

theorem VRL.length {ρ : Rho} : ∀ {l : List V} {l' : List Value}, VRL ρ l l' → l.length = l'.length
  | _, _, .nil => rfl
  | _, _, .cons _ y => by simp [VRL.length y]
theorem VRL.get {ρ : Rho} : ∀ {l : List V} {l' : List Value}, VRL ρ l l' → ∀ (i : Nat) (v : V), l[i]? = some v → ∃ r, l'[i]? = some r ∧ VR ρ v r
  | _, _, .nil, i, v, h => by simp at h
  | _, _, .cons x y, 0, v, h => by simp at h; subst h; exact ⟨_, rfl, x⟩
  | _, _, .cons x y, i + 1, v, h => by simp at h; simpa using VRL.get y i v h
theorem VRL.append {ρ : Rho} : ∀ {l : List V} {l' : List Value} {m : List V} {m' : List Value}, VRL ρ l l' → VRL ρ m m' → VRL ρ (l ++ m) (l' ++ m')
  | _, _, _, _, .nil, y => y
  | _, _, _, _, .cons x z, y => .cons x (VRL.append z y)
theorem VRL.take {ρ : Rho} : ∀ {l : List V} {l' : List Value} (n : Nat), VRL ρ l l' → VRL ρ (l.take n) (l'.take n)
  | _, _, 0, _ => .nil
  | _, _, _ + 1, .nil => .nil
  | _, _, n + 1, .cons x y => .cons x (VRL.take n y)
theorem VRL.drop {ρ : Rho} : ∀ {l : List V} {l' : List Value} (n : Nat), VRL ρ l l' → VRL ρ (l.drop n) (l'.drop n)
  | _, _, 0, h => h
  | _, _, _ + 1, .nil => .nil
  | _, _, n + 1, .cons x y => VRL.drop n y
theorem VRL.of_get {ρ : Rho} : ∀ {l : List V} {l' : List Value}, l.length = l'.length → (∀ (i : Nat) (v : V), l[i]? = some v → ∃ r, l'[i]? = some r ∧ VR ρ v r) → VRL ρ l l'
  | [], [], _, _ => .nil
  | v :: l, r :: l', hl, h => by
    obtain ⟨r', h1, h2⟩ := h 0 v rfl
    simp at h1; subst h1
    exact .cons h2 (VRL.of_get (by simpa using hl) fun i v hv => by simpa using h (i + 1) v (by simpa using hv))
theorem VRL.one {ρ : Rho} {v : V} {r : Value} (h : VR ρ v r) : VRL ρ [v] [r] := .cons h .nil

/-- values without depth are known -/
theorem VRL.map_same {ρ : Rho} (l : List Nat) : VRL ρ (l.map fun b => vInt 18 b) (l.map fun b => .int .u8 (Int.ofNat b)) := by
  induction l with
  | nil => exact .nil
  | cons a l ih => exact .cons (VR.int .u8 a) ih

/-- maps, entry by entry -/
inductive ER (ρ : Rho) : List (V × V) → List MapEntry → Prop
  | nil : ER ρ [] []
  | cons {k v : V} {e : MapEntry} {l : List (V × V)} {l' : List MapEntry} : VR ρ k e.key → VR ρ v e.val → ER ρ l l' → ER ρ ((k, v) :: l) (e :: l')
theorem ER.mono {ρ ρ' : Rho} (h : ρ.le ρ') : ∀ {l : List (V × V)} {l' : List MapEntry}, ER ρ l l' → ER ρ' l l'
  | _, _, .nil => .nil
  | _, _, .cons x y z => .cons (x.mono h) (y.mono h) (ER.mono h z)

/-- the frame -/
def EnvR (ρ : Rho) (e : Env) (a : Act) : Prop := ∀ t v, e.get t = some v → VR ρ v (a.tmps.getD t undef)
theorem EnvR.mono {ρ ρ' : Rho} (h : ρ.le ρ') {e : Env} {a : Act} (x : EnvR ρ e a) : EnvR ρ' e a := fun t v hv => (x t v hv).mono h

/-- the slots of D are never in the frame -/
def NoD (D : Nat) (e : Env) : Prop := ∀ t, D.testBit t = true → e.get t = none
/-- of the loops over functions: their code, how many slots there are, and those that are never in the frame -/
structure Lc where
  f : Nat → Option (Code × Code × Nat)
  D : Nat → Nat
/-- what a loop over a function is to have in memory; D: the block of its deferred calls -/
structure LoopR (ρ : Rho) (lc : Lc) (c : Cell) (l : Loop) : Prop where
  code : lc.f c.size = some (l.assign, l.body, l.tmps.size) 
  noD : NoD (lc.D c.size) c.c
  ps : c.ps = l.params.toList
  env : ∀ t v, c.c.get t = some v → VR ρ v (l.tmps.getD t undef)
  ready : c.m = 0 → l.state = .ready
  mid : c.m = 3 → l.state = .ready
  psOk : ∀ t ∈ c.ps, t < l.tmps.size ∧ (lc.D c.size).testBit t = false
  done : c.m = 2 → l.state = .done
  out : c.esz = 0 → l.pending = none
  ret : c.esz = 1 → l.pending = some .ret
  brk : ∀ j, c.esz = 2 + j → l.pending = some (.exit j)

section
variable (lc : Lc)
def CellR (ρ : Rho) (c : Cell) (p : Pl) (w : World) : Prop :=
  (c.t = 0 → p.own = true ∧ p.esz = c.esz ∧ (c.m = 0 → c.fl.length = c.size) ∧ ∃ cs ty, w.heap[p.blk]? = some (.cells cs ty (0, 0)) ∧ cs.size = p.room ∧ p.base + c.size ≤ p.room ∧
    ∀ j v, c.val j = some v → ∃ r, cs[p.base + j]? = some r ∧ VR ρ v r ∧ atom r) ∧
  (c.t = 1 → p.own = false ∧ (∃ o, w.heap[p.blk]? = some o) ∧ ∀ j v, c.val j = some v → ∃ r, w.cell? ⟨p.blk, p.base + j, none⟩ = some r ∧ VR ρ v r ∧ atom r) ∧
  (c.t = 2 → p.own = true ∧ ∃ es ck, w.heap[p.blk]? = some (.map es ck) ∧ ER ρ c.es es.toList) ∧
  (c.t = 3 → p.own = true ∧ ∃ l, w.heap[p.blk]? = some (.loop l) ∧ LoopR ρ lc c l) ∧ c.t ≤ 4

theorem cell?_same {w w' : World} {a : Addr} (h : w'.heap[a.block]? = w.heap[a.block]?) : w'.cell? a = w.cell? a := by
  simp only [World.cell?, h]

theorem CellR.keep {ρ ρ' : Rho} {c : Cell} {p : Pl} {w w' : World} (hρ : ρ.le ρ') (hw : w'.heap[p.blk]? = w.heap[p.blk]?) (h : CellR lc ρ c p w) : CellR lc ρ' c p w' := by
  obtain ⟨h0, h1, h2, h3, h4⟩ := h
  refine ⟨fun e => ?_, fun e => ?_, fun e => ?_, fun e => ?_, h4⟩
  · obtain ⟨a, b, c', cs, ty, x, y, z, u⟩ := h0 e
    exact ⟨a, b, c', cs, ty, hw.trans x, y, z, fun j v hv => let ⟨r, r1, r2, r3⟩ := u j v hv; ⟨r, r1, r2.mono hρ, r3⟩⟩
  · obtain ⟨a, ⟨o, ho⟩, u⟩ := h1 e
    exact ⟨a, ⟨o, hw.trans ho⟩, fun j v hv => let ⟨r, r1, r2, r3⟩ := u j v hv; ⟨r, (cell?_same hw).trans r1, r2.mono hρ, r3⟩⟩
  · obtain ⟨a, es, ck, x, y⟩ := h2 e
    exact ⟨a, es, ck, hw.trans x, y.mono hρ⟩
  · obtain ⟨a, l, x, y⟩ := h3 e
    exact ⟨a, l, hw.trans x, { y with env := fun t v hv => (y.env t v hv).mono hρ }⟩

/-- a block that is there -/
def Live (s : St) (i : Nat) (c : Cell) : Prop := s.h.get i = some c ∧ c.t ≠ 4

structure Rel (ρ : Rho) (s : St) (w : World) : Prop where
  cell : ∀ i c, Live s i c → ∃ p, ρ i = some p ∧ CellR lc ρ c p w
  scope : ∀ i p, ρ i = some p → i < s.n
  dom : ∀ i c, s.h.get i = some c → i < s.n
  inj : ∀ i j ci cj p q, Live s i ci → Live s j cj → ρ i = some p → ρ j = some q → i ≠ j → p.own = true → q.blk ≠ p.blk

/-- is a block of the machine's one that may be written? -/
def Owned (ρ : Rho) (s : St) (r : Nat) : Prop := ∃ i c p, Live s i c ∧ ρ i = some p ∧ p.own = true ∧ p.blk = r

def Used (ρ : Rho) (s : St) (r : Nat) : Prop := ∃ i c p, Live s i c ∧ ρ i = some p ∧ p.blk = r

structure Keep (ρ : Rho) (s : St) (w w' : World) : Prop where
  size : w.heap.size ≤ w'.heap.size
  same : ∀ r, r < w.heap.size → ¬ Owned ρ s r → w'.heap[r]? = w.heap[r]?
  os : w'.os = w.os
  tape : w'.tape = w.tape
  output : w'.output = w.output

/-- from one state to another one -/
structure Goes (ρ : Rho) (s : St) (w : World) (ρ' : Rho) (s' : St) (w' : World) : Prop where
  le : ρ.le ρ'
  rel : Rel lc ρ' s' w'
  keep : Keep ρ s w w'
  own : ∀ r, Owned ρ' s' r → w.heap.size ≤ r ∨ Owned ρ s r
  fresh : ∀ i p, ρ' i = some p → i < s.n → ρ i = some p
  n : s.n ≤ s'.n
  used : ∀ r, Used ρ' s' r → w.heap.size ≤ r ∨ Used ρ s r

theorem Keep.refl (ρ : Rho) (s : St) (w : World) : Keep ρ s w w := ⟨Nat.le_refl _, fun _ _ _ => rfl, rfl, rfl, rfl⟩
variable {lc}
theorem Goes.refl {ρ : Rho} {s : St} {w : World} (h : Rel lc ρ s w) : Goes lc ρ s w ρ s w :=
  ⟨Rho.le_refl _, h, Keep.refl _ _ _, fun _ h => .inr h, fun _ _ h _ => h, Nat.le_refl _, fun _ h => .inr h⟩
theorem Goes.trans {ρ ρ₁ ρ₂ : Rho} {s s₁ s₂ : St} {w w₁ w₂ : World} (h : Goes lc ρ s w ρ₁ s₁ w₁) (h' : Goes lc ρ₁ s₁ w₁ ρ₂ s₂ w₂) : Goes lc ρ s w ρ₂ s₂ w₂ where
  le := Rho.le_trans h.le h'.le
  rel := h'.rel
  keep := {
    size := Nat.le_trans h.keep.size h'.keep.size
    same := fun r hr ho => by
      rw [h'.keep.same r (Nat.lt_of_lt_of_le hr h.keep.size) (fun ho' => ?_), h.keep.same r hr ho]
      rcases h.own r ho' with h1 | h1
      · omega
      · exact ho h1
    os := h'.keep.os.trans h.keep.os
    tape := h'.keep.tape.trans h.keep.tape
    output := h'.keep.output.trans h.keep.output }
  own := fun r ho => by
    rcases h'.own r ho with h1 | h1
    · exact .inl (Nat.le_trans h.keep.size h1)
    · exact h.own r h1
  fresh := fun i p hp hi => h.fresh i p (h'.fresh i p hp (Nat.lt_of_lt_of_le hi h.n)) hi
  n := Nat.le_trans h.n h'.n
  used := fun r ho => by
    rcases h'.used r ho with h1 | h1
    · exact .inl (Nat.le_trans h.keep.size h1)
    · exact h.used r h1
theorem heap_alloc (w : World) (o : Obj) : (w.alloc o).heap = w.heap.push o := rfl
theorem Goes.drawn {ρ : Rho} {s : St} {w : World} (h : Rel lc ρ s w) (k : Nat) : Goes lc ρ s w ρ s { w with drawn := k } :=
  ⟨Rho.le_refl _, ⟨fun i c hc => let ⟨p, hp, hr⟩ := h.cell i c hc; ⟨p, hp, hr.keep lc (Rho.le_refl _) rfl⟩, h.scope, h.dom, h.inj⟩, ⟨Nat.le_refl _, fun _ _ _ => rfl, rfl, rfl, rfl⟩, fun _ h => .inr h, fun _ _ h _ => h, Nat.le_refl _, fun _ h => .inr h⟩

/-- own blocks lie in memory -/
theorem Rel.blk_lt {ρ : Rho} {s : St} {w : World} (h : Rel lc ρ s w) {i : Nat} {c : Cell} {p : Pl} (hc : Live s i c) (hp : ρ i = some p) : p.blk < w.heap.size := by
  obtain ⟨q, hq, h0, h1, h2, h3, h4⟩ := h.cell i c hc
  rw [hp] at hq; cases hq
  have key : ∀ o, w.heap[p.blk]? = some o → p.blk < w.heap.size := fun o ho => by
    rcases Nat.lt_or_ge p.blk w.heap.size with h | h
    · exact h
    · simp [Array.getElem?_eq_none h] at ho
  have ht := hc.2
  by_cases e0 : c.t = 0
  · obtain ⟨_, _, _, cs, ty, x, _⟩ := h0 e0; exact key _ x
  by_cases e1 : c.t = 1
  · obtain ⟨_, ⟨o, x⟩, _⟩ := h1 e1; exact key _ x
  by_cases e2 : c.t = 2
  · obtain ⟨_, es, ck, x, _⟩ := h2 e2; exact key _ x
  by_cases e3 : c.t = 3
  · obtain ⟨_, l, x, _⟩ := h3 e3; exact key _ x
  · omega
theorem Owned.lt {ρ : Rho} {s : St} {w : World} (h : Rel lc ρ s w) {r : Nat} (ho : Owned ρ s r) : r < w.heap.size := by
  obtain ⟨i, c, p, hc, hp, ho, rfl⟩ := ho
  exact h.blk_lt hc hp

/-- a new block -/
theorem Rel.alloc {ρ : Rho} {s : St} {w : World} (h : Rel lc ρ s w) {c : Cell} {p : Pl} {o : Obj} (hb : p.blk = w.heap.size) (ho : p.own = true)
    (hc : CellR lc (ρ.put s.n p) c p (w.alloc o)) : Goes lc ρ s w (ρ.put s.n p) ⟨s.h.set s.n c, s.n + 1⟩ (w.alloc o) := by
  have hn : ρ s.n = none := by
    cases e : ρ s.n with
    | none => rfl
    | some q => exact absurd (h.scope _ _ e) (by omega)
  have hle := Rho.le_put p hn
  have hsame : ∀ r, r < w.heap.size → (w.alloc o).heap[r]? = w.heap[r]? := fun r hr => by
    rw [heap_alloc, Array.getElem?_push, if_neg (Nat.ne_of_lt hr)]
  have hlive : ∀ i ci, Live ⟨s.h.set s.n c, s.n + 1⟩ i ci → (i = s.n ∧ ci = c) ∨ (i ≠ s.n ∧ Live s i ci) := fun i ci hi => by
    by_cases e : i = s.n
    · subst e; have := hi.1; simp at this; exact .inl ⟨rfl, this.symm⟩
    · have := hi.1; simp only [T.get_set_ne _ _ (Ne.symm e)] at this; exact .inr ⟨e, this, hi.2⟩
  have hput : ∀ i, i ≠ s.n → ρ.put s.n p i = ρ i := fun i hi => by simp [Rho.put, hi]
  refine ⟨hle, ⟨fun i ci hi => ?_, fun i q hq => ?_, fun i ci hi => ?_, fun i j ci cj q q' hi hj hq hq' hij hoq => ?_⟩, ⟨by rw [heap_alloc]; simp, fun r hr _ => hsame r hr, rfl, rfl, rfl⟩, fun r hr => ?_, fun i q hq hi => ?_, Nat.le_succ _, fun r hr => ?_⟩
  · rcases hlive i ci hi with ⟨rfl, rfl⟩ | ⟨hne, hl⟩
    · exact ⟨p, Rho.put_self _ _ _, hc⟩
    · obtain ⟨q, hq, hr⟩ := h.cell i ci hl
      exact ⟨q, (hput i hne).trans hq, hr.keep lc hle (hsame _ (h.blk_lt hl hq))⟩
  · by_cases e : i = s.n
    · subst e; exact Nat.lt_succ_self _
    · rw [hput i e] at hq; exact Nat.lt_succ_of_lt (h.scope _ _ hq)
  · by_cases e : i = s.n
    · subst e; exact Nat.lt_succ_self _
    · simp only [T.get_set_ne _ _ (Ne.symm e)] at hi; exact Nat.lt_succ_of_lt (h.dom _ _ hi)
  · rcases hlive i ci hi with ⟨rfl, rfl⟩ | ⟨hne, hl⟩
    · rcases hlive j cj hj with ⟨rfl, rfl⟩ | ⟨hne', hl'⟩
      · exact absurd rfl hij
      · rw [Rho.put_self] at hq; cases hq
        rw [hput j hne'] at hq'
        have := h.blk_lt hl' hq'; omega
    · rcases hlive j cj hj with ⟨rfl, rfl⟩ | ⟨hne', hl'⟩
      · rw [Rho.put_self] at hq'; cases hq'
        rw [hput i hne] at hq
        have := h.blk_lt hl hq; omega
      · rw [hput i hne] at hq; rw [hput j hne'] at hq'
        exact h.inj i j ci cj q q' hl hl' hq hq' hij hoq
  · obtain ⟨i, ci, q, hi, hq, hoq, rfl⟩ := hr
    rcases hlive i ci hi with ⟨rfl, rfl⟩ | ⟨hne, hl⟩
    · rw [Rho.put_self] at hq; cases hq; exact .inl (by omega)
    · rw [hput i hne] at hq; exact .inr ⟨i, ci, q, hl, hq, hoq, rfl⟩
  · rw [hput i (by omega)] at hq; exact hq
  · obtain ⟨i, ci, q, hi, hq, rfl⟩ := hr
    rcases hlive i ci hi with ⟨rfl, rfl⟩ | ⟨hne, hl⟩
    · rw [Rho.put_self] at hq; cases hq; exact .inl (by omega)
    · rw [hput i hne] at hq; exact .inr ⟨i, ci, q, hl, hq, rfl⟩
/-- a block that is not the evaluator's -/
theorem Goes.allocU {ρ : Rho} {s : St} {w : World} (h : Rel lc ρ s w) (o : Obj) : Goes lc ρ s w ρ s (w.alloc o) := by
  have hsame : ∀ r, r < w.heap.size → (w.alloc o).heap[r]? = w.heap[r]? := fun r hr => by
    rw [heap_alloc, Array.getElem?_push, if_neg (Nat.ne_of_lt hr)]
  exact ⟨Rho.le_refl _, ⟨fun i c hc => let ⟨p, hp, hr⟩ := h.cell i c hc; ⟨p, hp, hr.keep lc (Rho.le_refl _) (hsame _ (h.blk_lt hc hp))⟩, h.scope, h.dom, h.inj⟩,
    ⟨by rw [heap_alloc]; simp, fun r hr _ => hsame r hr, rfl, rfl, rfl⟩, fun _ h => .inr h, fun _ _ h _ => h, Nat.le_refl _, fun _ h => .inr h⟩
/-- a block that is not the evaluator's, and new since w0, is written -/
theorem Goes.writeU {ρ ρ0 : Rho} {s s0 : St} {w0 w w' : World} (h : Goes lc ρ0 s0 w0 ρ s w) {r : Nat} (hr : w0.heap.size ≤ r) (hu : ¬ Used ρ s r)
    (hsz : w'.heap.size = w.heap.size) (hoth : ∀ x, x ≠ r → w'.heap[x]? = w.heap[x]?) (hos : w'.os = w.os) (htp : w'.tape = w.tape) (hout : w'.output = w.output) : Goes lc ρ0 s0 w0 ρ s w' :=
  ⟨h.le, ⟨fun i c hc => let ⟨p, hp, hcr⟩ := h.rel.cell i c hc; ⟨p, hp, hcr.keep lc (Rho.le_refl _) (hoth _ fun e => hu ⟨i, c, p, hc, hp, e⟩)⟩, h.rel.scope, h.rel.dom, h.rel.inj⟩,
    ⟨by have := h.keep.size; omega, fun x hx hno => (hoth x (by omega)).trans (h.keep.same x hx hno), hos.trans h.keep.os, htp.trans h.keep.tape, hout.trans h.keep.output⟩, h.own, h.fresh, h.n, h.used⟩
end
end Go.Lm
