/- From an evaluation to a call of the machine's. -/
import Derived.Test.YtnnadeeoejchpaaLmDraw7
import Derived.ProofKit
import Derived.Lib.Bytealg
set_option linter.all false
namespace Go.Lm

def loopsOfF (fn : Func) (m : Nat) : List (Nat × Code × Code) := match fn.body with | some c => (loopsOf c m).2 | none => []
/-- the loops over functions, by their numbers: in which function they stand, and its slots that are not asked for -/
def lcOf (l : List (Nat × Func × Nat)) : Lc where
  f := fun n => (l.find? fun x => x.1 == n).bind fun x => (loopsOfF x.2.1 n)[0]?.map fun y => (y.2.1, y.2.2, x.2.1.ntmps)
  D := fun n => ((l.find? fun x => x.1 == n).map fun x => x.2.2).getD 0

section
variable {P : Program} {lc : Lc}

def Good (P : Program) (lc : Lc) (i : Nat) (f : Fn) : Prop := (∃ fn c D m, P.funcs[i]? = some fn ∧ (fn.name == "runtime.NumGoroutine") = false ∧ fn.body = some c ∧ f = compFn P fn D m ∧
    ∀ x ∈ (loopsOf c m).2, lc.f x.1 = some (x.2.1, x.2.2, fn.ntmps) ∧ lc.D x.1 = D) ∨ ExternOk P lc i f
def FnsOk (P : Program) (lc : Lc) (t : T Fn) : Prop := ∀ i f, t.get i = some f → Good P lc i f
theorem FnsOk.nil : FnsOk P lc .nl := fun i f h => by rw [T.get_nl] at h; cases h
theorem FnsOk.set {t : T Fn} {j : Nat} {g : Fn} (h : FnsOk P lc t) (hg : Good P lc j g) : FnsOk P lc (t.set j g) := fun i f hf => by
  rw [T.get_set] at hf
  by_cases e : j = i
  · subst e; rw [if_pos rfl] at hf; cases hf; exact hg
  · rw [if_neg e] at hf; exact h i f hf
def BodyOk (P : Program) (lc : Lc) (b : Nat) (x : Cc × Cc) : Prop :=
  ∃ as bo N D m m2, lc.f b = some (as, bo, N) ∧ lc.D b = D ∧ N ≤ 1000000 ∧ x = ((compCode P N D as m).1, (compCode P N D bo m2).1) ∧ (loopsOf as m).2 = [] ∧ (loopsOf bo m2).2 = []
def BodiesOk (P : Program) (lc : Lc) (t : T (Cc × Cc)) : Prop := ∀ i f, t.get i = some f → BodyOk P lc i f
theorem BodiesOk.nil : BodiesOk P lc .nl := fun i f h => by rw [T.get_nl] at h; cases h
theorem BodiesOk.set {t : T (Cc × Cc)} {j : Nat} {g : Cc × Cc} (h : BodiesOk P lc t) (hg : BodyOk P lc j g) : BodiesOk P lc (t.set j g) := fun i f hf => by
  rw [T.get_set] at hf
  by_cases e : j = i
  · subst e; rw [if_pos rfl] at hf; cases hf; exact hg
  · rw [if_neg e] at hf; exact h i f hf

theorem good_fn {i : Nat} {fn : Func} {D m : Nat} {k : Fn} (hf : P.funcs[i]? = some fn) (hn : (fn.name == "runtime.NumGoroutine") = false) (hb : fn.body.isSome = true) (hl : loopsOfF fn m = []) (hc : compFn P fn D m = k) : Good P lc i k := by
  cases h : fn.body with
  | none => rw [h] at hb; cases hb
  | some c =>
    refine .inl ⟨fn, c, D, m, hf, hn, h, hc.symm, fun x hx => ?_⟩
    unfold loopsOfF at hl; rw [h] at hl
    have hl : (loopsOf c m).2 = [] := hl
    rw [hl] at hx; cases hx
theorem good_fn1 {i : Nat} {fn : Func} {D m : Nat} {k : Fn} (hf : P.funcs[i]? = some fn) (hn : (fn.name == "runtime.NumGoroutine") = false) (hb : fn.body.isSome = true) (hl : (loopsOfF fn m).map (·.1) = [m])
    (hlc : lc.f m = (loopsOfF fn m)[0]?.map fun y => (y.2.1, y.2.2, fn.ntmps)) (hD : lc.D m = D) (hc : compFn P fn D m = k) : Good P lc i k := by
  cases h : fn.body with
  | none => rw [h] at hb; cases hb
  | some c =>
    refine .inl ⟨fn, c, D, m, hf, hn, h, hc.symm, fun x hx => ?_⟩
    have he : loopsOfF fn m = (loopsOf c m).2 := by unfold loopsOfF; rw [h]
    rw [he] at hl hlc
    generalize (loopsOf c m).2 = l at hl hlc hx
    match l, hl with
    | [y], hl =>
      simp only [List.map_cons, List.map_nil, List.cons.injEq, and_true] at hl
      rcases List.mem_singleton.1 hx with rfl
      subst hl
      exact ⟨hlc, hD⟩

theorem bodies_len (N D : Nat) : ∀ (c : Code) (m : Nat), (compCode P N D c m).2.2.length = (loopsOf c m).2.length
  | .skip, m | .label _, m | .exit _, m | .ret, m | .scope _, m | .goto _, m | .refuse _, m => by simp [compCode, loopsOf]
  | .region _ _ false, m | .region _ _ true, m => by simp [compCode, loopsOf]
  | .seq a b, m => by simp only [compCode, loopsOf, List.length_append]; rw [bodies_len N D a m, comp_next, bodies_len N D b]
  | .cond _ a b, m => by simp only [compCode, loopsOf, List.length_append]; rw [bodies_len N D a m, comp_next, bodies_len N D b]
  | .block _ b, m => by simp only [compCode, loopsOf]; rw [bodies_len N D b]
  | .loop b, m => by simp only [compCode, loopsOf]; rw [bodies_len N D b]
  | .rangeFunc _ _ a b, m => by simp only [compCode, loopsOf, List.length_cons, List.length_append]; rw [bodies_len N D a, comp_next, bodies_len N D b]

theorem bodies_one {N D : Nat} : ∀ (c : Code) (m : Nat) (y : Nat × Code × Code) (b : Cc × Cc), (loopsOf c m).2 = [y] → (compCode P N D c m).2.2 = [b] →
    ∃ m1 m2, b = ((compCode P N D y.2.1 m1).1, (compCode P N D y.2.2 m2).1) ∧ (loopsOf y.2.1 m1).2 = [] ∧ (loopsOf y.2.2 m2).2 = []
  | .skip, m, y, b, h, _ | .label _, m, y, b, h, _ | .exit _, m, y, b, h, _ | .ret, m, y, b, h, _ | .scope _, m, y, b, h, _ | .goto _, m, y, b, h, _ | .refuse _, m, y, b, h, _ => by simp [loopsOf] at h
  | .region _ _ false, m, y, b, h, _ | .region _ _ true, m, y, b, h, _ => by simp [loopsOf] at h
  | .seq a c, m, y, b, h, h2 => by
    simp only [compCode, loopsOf] at h h2
    rw [comp_next] at h2
    have l1 := bodies_len (P := P) N D a m
    have l2 := bodies_len (P := P) N D c (loopsOf a m).1
    rcases List.append_eq_singleton_iff.1 h with ⟨e1, e2⟩ | ⟨e1, e2⟩
    · rw [e1] at l1
      rw [List.length_eq_zero_iff.1 l1, List.nil_append] at h2
      exact bodies_one c _ y b e2 h2
    · rw [e2] at l2
      rw [List.length_eq_zero_iff.1 l2, List.append_nil] at h2
      exact bodies_one a _ y b e1 h2
  | .cond _ a c, m, y, b, h, h2 => by
    simp only [compCode, loopsOf] at h h2
    rw [comp_next] at h2
    have l1 := bodies_len (P := P) N D a m
    have l2 := bodies_len (P := P) N D c (loopsOf a m).1
    rcases List.append_eq_singleton_iff.1 h with ⟨e1, e2⟩ | ⟨e1, e2⟩
    · rw [e1] at l1
      rw [List.length_eq_zero_iff.1 l1, List.nil_append] at h2
      exact bodies_one c _ y b e2 h2
    · rw [e2] at l2
      rw [List.length_eq_zero_iff.1 l2, List.append_nil] at h2
      exact bodies_one a _ y b e1 h2
  | .block _ c, m, y, b, h, h2 => by
    simp only [compCode, loopsOf] at h h2
    exact bodies_one c _ y b h h2
  | .loop c, m, y, b, h, h2 => by
    simp only [compCode, loopsOf] at h h2
    exact bodies_one c _ y b h h2
  | .rangeFunc _ _ a c, m, y, b, h, h2 => by
    simp only [compCode, loopsOf] at h h2
    rw [comp_next] at h2
    have l1 := bodies_len (P := P) N D a (m + 1)
    have l2 := bodies_len (P := P) N D c (loopsOf a (m + 1)).1
    obtain ⟨h3, h4⟩ := List.cons_eq_cons.1 h
    obtain ⟨h5, h6⟩ := List.append_eq_nil_iff.1 h4
    subst h3
    rw [h5] at l1; rw [h6] at l2
    rw [List.length_eq_zero_iff.1 l1, List.length_eq_zero_iff.1 l2] at h2
    obtain ⟨h7, _⟩ := List.cons_eq_cons.1 h2
    exact ⟨_, _, h7.symm, h5, h6⟩

theorem body_ok {fn : Func} {D m : Nat} {b : Cc × Cc} (hl : (loopsOfF fn m).map (·.1) = [m]) (hlc : lc.f m = (loopsOfF fn m)[0]?.map fun y => (y.2.1, y.2.2, fn.ntmps)) (hD : lc.D m = D) (hN : fn.ntmps ≤ 1000000)
    (hc : compBodies P fn D m = [b]) : BodyOk P lc m b := by
  cases h : fn.body with
  | none => unfold loopsOfF at hl; rw [h] at hl; cases hl
  | some c =>
    have he : loopsOfF fn m = (loopsOf c m).2 := by unfold loopsOfF; rw [h]
    have hc : (compCode P fn.ntmps D c m).2.2 = [b] := by unfold compBodies at hc; rw [h] at hc; exact hc
    rw [he] at hl hlc
    cases hll : (loopsOf c m).2 with
    | nil => rw [hll] at hl; cases hl
    | cons y l =>
      cases l with
      | cons _ _ => rw [hll] at hl; cases hl
      | nil =>
        rw [hll] at hlc
        obtain ⟨m1, m2, h1, h2, h3⟩ := bodies_one c m y b hll hc
        exact ⟨_, _, _, D, m1, m2, hlc, hD, hN, h1, h2, h3⟩

/-- nothing that was there is changed -/
structure KeepsAll (w w' : World) : Prop where
  size : w.heap.size ≤ w'.heap.size
  same : ∀ r, r < w.heap.size → w'.heap[r]? = w.heap[r]?
  os : w'.os = w.os
  tape : w'.tape = w.tape
  output : w'.output = w.output

theorem KeepsAll.kept {w w' : World} (h : KeepsAll w w') (may : MemPlace → Prop) : w.keptBut w' may := by
  refine ⟨h.os, h.output, fun i hi => ?_⟩
  rw [h.same i hi]
  cases w.heap[i]? with
  | none => rfl
  | some o => cases o <;> first | rfl | exact ⟨rfl, rfl, rfl, fun _ _ => rfl⟩ | exact .inr ⟨rfl, rfl⟩
theorem KeepsAll.frozen {w w' : World} (h : KeepsAll w w') {a : Addr} (ha : a.block < w.heap.size) : w'.frozen? a = w.frozen? a := by
  unfold World.frozen?; rw [h.same _ ha]

/-- a law without arguments, evaluated -/
theorem closed_call {p : Prg} {N i : Nat} {fn : Func} {c : Code} {w : World} (hm : P.follows .mixedOrders = true) (hp : PrgOk P lc p) (hf : P.funcs[i]? = some fn) (hn : (fn.name == "runtime.NumGoroutine") = false) (hb : fn.body = some c)
    (he : evCall p N (vFn i []) [] ⟨.nl, 0⟩ (fun v _ => chk (Nat.beq v.t 1) (some (vT, ⟨.nl, 0⟩))) = some (vT, ⟨.nl, 0⟩)) : Calls P i #[] w fun e w' => e = .returned (.bool true) ∧ KeepsAll w w' := by
  have hR : Rel lc (fun _ => none) ⟨.nl, 0⟩ w := ⟨fun i c h => absurd h.1 (by simp), fun i p h => (by cases h), fun i c h => absurd h (by simp), fun i j ci cj p q h => absurd h.1 (by simp)⟩
  have := evCall_ok hp (draws_ok hm) N (vFn i []) [] ⟨.nl, 0⟩ _ _ (fun _ => none) w _ [] he hR (.fn .nil) .nil
  unfold CallR at this
  dsimp only at this
  have e0 : (#[] ++ (⟨[]⟩ : Array Value)) ++ (⟨[]⟩ : Array Value) = #[] := by simp
  rw [e0] at this
  rcases this with ⟨_, h⟩ | ⟨_, v, w', h, _⟩
  · refine h.mono fun e w' he => ?_
    cases e with
    | returned rv =>
      obtain ⟨v, s', ρ', hk, hg, hv⟩ := he
      obtain ⟨h1, _⟩ := chk_some.1 hk
      rw [hv.inv_t (beq_t.1 h1)]
      refine ⟨rfl, hg.keep.size, fun r hr => hg.keep.same r hr ?_, hg.keep.os, hg.keep.tape, hg.keep.output⟩
      rintro ⟨j, c, p, hl, _⟩
      have := hl.1; simp at this
    | panicked _ => exact he.elim
    | outgrown => exact he.elim
  · rw [MuLone.run_callFunc_enter hf hn hb] at h; cases h
end

/-! bytealg.IndexByteString -/
noncomputable def idxN (c : Nat) (l : List Nat) (k : Nat → Res) (n : Res) : Nat → Res :=
  List.rec (motive := fun _ => Nat → Res) (fun _ => n) (fun a _ ih i => bs (Nat.beq a c) (k i) (ih (Nat.succ i))) l
noncomputable def fIndexByte : Fn := fun _ args s k => List.rec (motive := fun _ => Res) none (fun x r _ => List.rec (motive := fun _ => Res) none (fun y r' _ => List.rec (motive := fun _ => Res)
  (chk (Nat.beq x.t 3) (chk (Nat.beq y.t 18) (chk (Nat.ble y.a 255) (idxN y.a x.s (fun i => fN i fun i => k (vInt 16 i) s) (k (vInt 17 0) s) 0)))) (fun _ _ _ => none) r') r) args

theorem idxN_spec (c : UInt8) (k : Nat → Res) (n : Res) : ∀ (l : List UInt8) (i : Nat), idxN c.toNat (l.map (·.toNat)) k n i = if Go.Lib.indexByte l c = -1 then n else k (i + (Go.Lib.indexByte l c).toNat)
  | [], i => by
    have e : Go.Lib.indexByte [] c = -1 := rfl
    rw [e, if_pos rfl]; rfl
  | b :: l, i => by
    have h : idxN c.toNat ((b :: l).map (·.toNat)) k n i = bs (Nat.beq b.toNat c.toNat) (k i) (idxN c.toNat (l.map (·.toNat)) k n (i + 1)) := rfl
    rw [h, idxN_spec c k n l (i + 1), bs_ite]
    have hge := Go.Lib.indexByte_ge l c
    have e : Go.Lib.indexByte (b :: l) c = if b == c then 0 else if Go.Lib.indexByte l c == -1 then -1 else Go.Lib.indexByte l c + 1 := rfl
    rw [e]
    by_cases hb : b = c
    · subst hb
      rw [if_pos (beq_t.2 rfl)]
      simp
    · have hbe : (b == c) = false := by simpa using hb
      rw [hbe]
      rw [if_neg (show ¬ (Nat.beq b.toNat c.toNat = true) by rw [beq_t]; intro h; exact hb (UInt8.toNat_inj.1 h))]
      simp only [Bool.false_eq_true, if_false]
      by_cases hi : Go.Lib.indexByte l c = -1
      · simp [hi]
      · have hie : (Go.Lib.indexByte l c == -1) = false := by simpa using hi
        rw [hie, if_neg hi]
        simp only [Bool.false_eq_true, if_false]
        rw [if_neg (by omega)]
        congr 1; omega

theorem extern_index {P : Program} {lc : Lc} {i : Nat} {fn : Func} (hf : P.funcs[i]? = some fn) (hname : (fn.name == "runtime.NumGoroutine") = false) (hb : fn.body.isNone = true) (hn : Extern.findNext fn = none)
    (he : Extern.find fn = some Extern.BytealgIndexByte.indexByte) : ExternOk P lc i fIndexByte := by
  intro call args s k q ρ w ARGS h hR hA
  cases hA with
  | nil => cases h
  | cons hx hr =>
    cases hr with
    | nil => cases h
    | cons hy hr2 =>
      cases hr2 with
      | cons _ _ => cases h
      | nil =>
        rename_i x X y Y
        have h : chk (Nat.beq x.t 3) (chk (Nat.beq y.t 18) (chk (Nat.ble y.a 255) (idxN y.a x.s (fun i => fN i fun i => k (vInt 16 i) s) (k (vInt 17 0) s) 0))) = some q := h
        obtain ⟨h1, h⟩ := chk_some.1 h
        obtain ⟨h2, h⟩ := chk_some.1 h
        obtain ⟨h3, h⟩ := chk_some.1 h
        obtain ⟨b, hX, hb2⟩ := hx.inv_str (beq_t.1 h1)
        have hY := hy.inv_int (k := .u8) (beq_t.1 h2)
        have h3 := ble_t.1 h3
        subst hX; subst hY
        refine ⟨fun l e => (by cases e), .int .i64 (Go.Lib.indexByte b.data.toList (Int.ofNat y.a).toNat.toUInt8), w, ?_, ?_⟩
        · rw [run_callFunc_extern hf hname hb hn he]
          have := Go.Lib.run_indexByteString (P := P) b (Int.ofNat y.a) w
          have e1 : (⟨[Value.string b, Value.int .u8 (.ofNat y.a)]⟩ : Array Value) = #[.string b, .int .u8 (.ofNat y.a)] := rfl
          rw [e1, this]; rfl
        · have hc : (Int.ofNat y.a).toNat.toUInt8.toNat = y.a := by
            show y.a.toUInt8.toNat = y.a
            rw [Nat.toUInt8_eq, UInt8.toNat_ofNat']; omega
          have hs : x.s = b.data.toList.map (·.toNat) := hb2
          have hid := idxN_spec (Int.ofNat y.a).toNat.toUInt8 (fun i => fN i fun i => k (vInt 16 i) s) (k (vInt 17 0) s) b.data.toList 0
          rw [hc, ← hs] at hid
          rw [hid] at h
          have hge := Go.Lib.indexByte_ge b.data.toList (Int.ofNat y.a).toNat.toUInt8
          by_cases hm : Go.Lib.indexByte b.data.toList (Int.ofNat y.a).toNat.toUInt8 = -1
          · rw [if_pos hm] at h
            rw [hm]
            exact ⟨_, _, ρ, h, Goes.refl hR, .neg .i64 0⟩
          · rw [if_neg hm, fN_eq] at h
            refine ⟨_, _, ρ, h, Goes.refl hR, ?_⟩
            have : Go.Lib.indexByte b.data.toList (Int.ofNat y.a).toNat.toUInt8 = Int.ofNat (0 + (Go.Lib.indexByte b.data.toList (Int.ofNat y.a).toNat.toUInt8).toNat) := by
              rw [Nat.zero_add]; show _ = ((_ : Nat) : Int); omega
            have key := VR.int (ρ := ρ) .i64 (0 + (Go.Lib.indexByte b.data.toList (Int.ofNat y.a).toNat.toUInt8).toNat)
            rw [← this] at key
            exact key
end Go.Lm
