/- Operations that touch no memory. -/
import Derived.Test.YtnnadeeoejchpaaLmInv
import GoSem.Dispatch
set_option linter.all false
namespace Go.Lm

/-- an operand, in the evaluator and in the machine -/
def Opd (ρ : Rho) (f : KV → Res) (X : Value) : Prop := ∀ k q, f k = some q → ∃ v, k v = some q ∧ VR ρ v X
def Opds (ρ : Rho) (f : (List V → Res) → Res) (X : List Value) : Prop := ∀ k q, f k = some q → ∃ v, k v = some q ∧ VRL ρ v X

section
variable (P : Program) (lc : Lc)
/-- an operation of the machine's does what the evaluator says -/
def Does (ρ : Rho) (s : St) (w : World) (sem : Sem Next) (k : K) (q : V × St) : Prop :=
  ∃ v s' ρ' w' rv, k v s' = some q ∧ (sem.run P w = .ok (.value rv) w' ∨ (rv = undef ∧ sem.run P w = .ok .skip w')) ∧ Goes lc ρ s w ρ' s' w' ∧ VR ρ' v rv
variable {P lc}
variable {ρ : Rho} {s : St} {w : World} {k : K} {q : V × St} {call : Caller} {e : Env}

theorem Does.same {sem : Sem Next} {v : V} {rv : Value} (hR : Rel lc ρ s w) (hk : k v s = some q) (h : sem.run P w = .ok (.value rv) w) (hv : VR ρ v rv) : Does P lc ρ s w sem k q :=
  ⟨v, s, ρ, w, rv, hk, .inl h, Goes.refl hR, hv⟩
theorem vrun {x : Sem Value} {rv : Value} {w' : World} (h : x.run P w = .ok rv w') : (do pure (.value (← x)) : Sem Next).run P w = .ok (.value rv) w' := by
  simp only [Sem.run_bind, h, Result.andThen_ok]; rfl
theorem urun {x : Sem Unit} {w' : World} (h : x.run P w = .ok () w') : (do x; pure .skip : Sem Next).run P w = .ok .skip w' := by
  simp only [Sem.run_bind, h, Result.andThen_ok]; rfl

theorem mv_ok {x : Od} {X : Value} (hR : Rel lc ρ s w) (hx : Opd ρ (x e) X) (h : oMv x call e s k = some q) : Does P lc ρ s w (pure (.value X)) k q := by
  obtain ⟨v, hk, hv⟩ := hx _ _ h
  exact .same hR hk rfl hv

theorem bool_some {v : V} {y n : Res} {X : Value} (hv : VR ρ v X) (h : bool v y n = some q) : (X = .bool true ∧ y = some q) ∨ (X = .bool false ∧ n = some q) := by
  unfold bool at h
  match ht : v.t with
  | 0 => rw [ht] at h; exact .inr ⟨hv.inv_f ht, h⟩
  | 1 => rw [ht] at h; exact .inl ⟨hv.inv_t ht, h⟩
  | t + 2 => rw [ht] at h; cases h

theorem pick_ok {c a b : Od} {C A B : Value} (hR : Rel lc ρ s w) (hc : Opd ρ (c e) C) (ha : Opd ρ (a e) A) (hb : Opd ρ (b e) B) (h : oPick c a b call e s k = some q) :
    Does P lc ρ s w (do pure (.value (if ← asBool C then A else B))) k q := by
  obtain ⟨v, hk, hv⟩ := hc _ _ h
  rcases bool_some hv hk with ⟨rfl, h⟩ | ⟨rfl, h⟩
  · obtain ⟨u, hk, hu⟩ := ha _ _ h
    exact .same hR hk rfl hu
  · obtain ⟨u, hk, hu⟩ := hb _ _ h
    exact .same hR hk rfl hu

theorem vB_some {b : Bool} {f : KV} (h : vB b f = some q) : ∃ v, f v = some q ∧ VR ρ v (.bool b) := by
  cases b
  · exact ⟨vF, h, .f⟩
  · exact ⟨vT, h, .t⟩

/-! ints -/
theorem ofInt_some {kd : IntKind} {n : Int} {f : KV} (h : ofInt (ofK kd) n f = some q) : ∃ v, f v = some q ∧ VR ρ v (.int kd n) := by
  cases n with
  | ofNat m => refine ⟨vInt (ofK kd) m, ?_, .int kd m⟩; have : fN m (fun m => f (vInt (ofK kd) m)) = some q := h; rwa [fN_eq] at this
  | negSucc m => refine ⟨vInt (ofK kd + 1) m, ?_, .neg kd m⟩; have : fN m (fun m => f (vInt (Nat.succ (ofK kd)) m)) = some q := h; rwa [fN_eq] at this
theorem wrapI_some {kd : IntKind} {n : Int} {f : KV} (h : wrapI (ofK kd) n f = some q) : ∃ v, f v = some q ∧ VR ρ v (.int kd (kd.wrap n)) := by
  unfold wrapI at h; rw [kOf_ofK] at h; exact ofInt_some h
theorem toI_some {kd : IntKind} {x : V} {X : Value} {f : Int → Res} (hx : VR ρ x X) (h : toI (ofK kd) x f = some q) : ∃ a, X = .int kd a ∧ f a = some q := by
  unfold toI at h
  rcases bs_some.1 h with ⟨h1, h2⟩ | ⟨h1, h2⟩
  · exact ⟨_, hx.inv_int (beq_t.1 h1), h2⟩
  · obtain ⟨h3, h4⟩ := chk_some.1 h2
    exact ⟨_, hx.inv_neg (beq_t.1 h3), h4⟩
theorem two_some {kd : IntKind} {x y : V} {X Y : Value} {f : Int → Int → Res} (hx : VR ρ x X) (hy : VR ρ y Y) (h : two (ofK kd) x y f = some q) : ∃ a b, X = .int kd a ∧ Y = .int kd b ∧ f a b = some q := by
  obtain ⟨a, ha, h⟩ := toI_some hx h
  obtain ⟨b, hb, h⟩ := toI_some hy h
  exact ⟨a, b, ha, hb, h⟩
theorem nn_true {kd : IntKind} {x y : V} {X Y : Value} (hx : VR ρ x X) (hy : VR ρ y Y) (h : nn (ofK kd) x y = true) : X = .int kd (.ofNat x.a) ∧ Y = .int kd (.ofNat y.a) := by
  have h1 := beq_t.1 h
  have h2 := hx.lt
  have h3 := hy.lt
  have h4 := ofK_even kd
  have h1' : x.t * 64 + y.t = ofK kd * 65 := h1
  exact ⟨hx.inv_int (by omega), hy.inv_int (by omega)⟩

theorem wrap_in {kd : IntKind} {n : Int} (h0 : 0 ≤ n) (h1 : n ≤ kd.max) : kd.wrap n = n := by
  cases kd <;> simp only [IntKind.max, IntKind.signed, IntKind.bits, IntKind.wrap] at * <;> simp at * <;> omega

/-- a function of two ints -/
def IntFn (kd : IntKind) (F : V → V → KV → Res) (G : Int → Int → Option Value) : Prop :=
  ∀ (ρ : Rho) (x y : V) (X Y : Value) (f : KV) (q : V × St), VR ρ x X → VR ρ y Y → F x y f = some q → ∃ a b v R, X = .int kd a ∧ Y = .int kd b ∧ G a b = some R ∧ f v = some q ∧ VR ρ v R

theorem addI_fn (kd : IntKind) : IntFn kd (addI (ofK kd)) fun a b => some (.int kd (kd.wrap (a + b))) := by
  intro ρ x y X Y f q hx hy h
  have slow : (two (ofK kd) x y fun a b => wrapI (ofK kd) (Int.add a b) f) = some q → ∃ a b v R, X = .int kd a ∧ Y = .int kd b ∧ some (Value.int kd (kd.wrap (a + b))) = some R ∧ f v = some q ∧ VR ρ v R := fun h => by
    obtain ⟨a, b, ha, hb, h⟩ := two_some hx hy h
    obtain ⟨v, hv, hr⟩ := wrapI_some h
    exact ⟨a, b, v, _, ha, hb, rfl, hv, hr⟩
  unfold addI at h
  rcases bs_some.1 h with ⟨h1, h⟩ | ⟨_, h⟩
  · rcases bs_some.1 h with ⟨h2, h⟩ | ⟨_, h⟩
    · obtain ⟨ha, hb⟩ := nn_true hx hy h1
      rw [fN_eq] at h
      refine ⟨_, _, _, _, ha, hb, rfl, h, ?_⟩
      have h3 := ble_t.1 h2
      have h4 := maxK_ofK kd
      have e : kd.wrap (Int.ofNat x.a + Int.ofNat y.a) = Int.ofNat (x.a + y.a) := by
        rw [wrap_in] <;> simp only [Int.ofNat_eq_natCast] at * <;> (have h3' : x.a + y.a ≤ maxK (ofK kd) := h3) <;> omega
      rw [e]; exact .int kd _
    · exact slow h
  · exact slow h
theorem subI_fn (kd : IntKind) : IntFn kd (subI (ofK kd)) fun a b => some (.int kd (kd.wrap (a - b))) := by
  intro ρ x y X Y f q hx hy h
  have slow : (two (ofK kd) x y fun a b => wrapI (ofK kd) (Int.sub a b) f) = some q → ∃ a b v R, X = .int kd a ∧ Y = .int kd b ∧ some (Value.int kd (kd.wrap (a - b))) = some R ∧ f v = some q ∧ VR ρ v R := fun h => by
    obtain ⟨a, b, ha, hb, h⟩ := two_some hx hy h
    obtain ⟨v, hv, hr⟩ := wrapI_some h
    exact ⟨a, b, v, _, ha, hb, rfl, hv, hr⟩
  unfold subI at h
  rcases bs_some.1 h with ⟨h1, h⟩ | ⟨_, h⟩
  · rcases bs_some.1 h with ⟨h2, h⟩ | ⟨_, h⟩
    · rcases bs_some.1 h with ⟨h2', h⟩ | ⟨_, h⟩
      · obtain ⟨ha, hb⟩ := nn_true hx hy h1
        rw [fN_eq] at h
        refine ⟨_, _, _, _, ha, hb, rfl, h, ?_⟩
        have h3 := ble_t.1 h2
        have h3' := ble_t.1 h2'
        have h4 := maxK_ofK kd
        have e : kd.wrap (Int.ofNat x.a - Int.ofNat y.a) = Int.ofNat (x.a - y.a) := by
          rw [wrap_in] <;> simp only [Int.ofNat_eq_natCast] at * <;> omega
        rw [e]; exact .int kd _
      · exact slow h
    · exact slow h
  · exact slow h
theorem mulI_fn (kd : IntKind) : IntFn kd (mulI (ofK kd)) fun a b => some (.int kd (kd.wrap (a * b))) := by
  intro ρ x y X Y f q hx hy h
  obtain ⟨a, b, ha, hb, h⟩ := two_some hx hy h
  obtain ⟨v, hv, hr⟩ := wrapI_some h
  exact ⟨a, b, v, _, ha, hb, rfl, hv, hr⟩
theorem isZ_false {kd : IntKind} {y : V} {b : Int} (hy : VR ρ y (.int kd b)) (h : isZ y (ofK kd) = false) : b ≠ 0 := by
  rintro rfl
  cases hy with
  | int k n => unfold isZ at h; rw [beq_t.2 rfl] at h; exact absurd h (by simp)
theorem quoI_fn (kd : IntKind) : IntFn kd (quoI (ofK kd)) fun a b => if b = 0 then none else some (.int kd (kd.wrap (a.tdiv b))) := by
  intro ρ x y X Y f q hx hy h
  rcases bs_some.1 h with ⟨_, h⟩ | ⟨hz, h⟩
  · cases h
  · obtain ⟨a, b, rfl, rfl, h⟩ := two_some hx hy h
    obtain ⟨v, hv, hr⟩ := wrapI_some h
    exact ⟨a, b, v, _, rfl, rfl, if_neg (isZ_false hy hz), hv, hr⟩
theorem remI_fn (kd : IntKind) : IntFn kd (remI (ofK kd)) fun a b => if b = 0 then none else some (.int kd (a.tmod b)) := by
  intro ρ x y X Y f q hx hy h
  rcases bs_some.1 h with ⟨_, h⟩ | ⟨hz, h⟩
  · cases h
  · obtain ⟨a, b, rfl, rfl, h⟩ := two_some hx hy h
    obtain ⟨v, hv, hr⟩ := ofInt_some h
    exact ⟨a, b, v, _, rfl, rfl, if_neg (isZ_false hy hz), hv, hr⟩
theorem leI_some {kd : IntKind} {x y : V} {X Y : Value} {f : Bool → Res} (hx : VR ρ x X) (hy : VR ρ y Y) (h : leI (ofK kd) x y f = some q) : ∃ a b, X = .int kd a ∧ Y = .int kd b ∧ f (decide (a ≤ b)) = some q := by
  rcases bs_some.1 h with ⟨h1, h⟩ | ⟨_, h⟩
  · obtain ⟨ha, hb⟩ := nn_true hx hy h1
    refine ⟨_, _, ha, hb, ?_⟩
    rw [← h]; congr 1
    by_cases e : x.a ≤ y.a
    · rw [ble_t.2 e]; simp [e]
    · rw [ble_f.2 (by omega)]; simp; omega
  · exact two_some hx hy h
theorem eqI_some {kd : IntKind} {x y : V} {X Y : Value} {f : Bool → Res} (hx : VR ρ x X) (hy : VR ρ y Y) (h : eqI (ofK kd) x y f = some q) : ∃ a b, X = .int kd a ∧ Y = .int kd b ∧ f (a == b) = some q := by
  obtain ⟨a, b, rfl, rfl, h⟩ := two_some hx hy h
  refine ⟨a, b, rfl, rfl, ?_⟩
  rw [← h]; congr 1
  have key : ∀ c d : Bool, (c = true ↔ d = true) → c = d := fun c d h => by cases c <;> cases d <;> simp_all
  have hk := ofK_even kd
  cases hx with
  | int k n => cases hy with
    | int k m =>
      show _ = bs (Nat.beq (ofK kd) (ofK kd)) (Nat.beq n m) false
      rw [beq_t.2 rfl, bs_true]; apply key; rw [beq_t]; simp; omega
    | neg k m =>
      show _ = bs (Nat.beq (ofK kd) (ofK kd + 1)) (Nat.beq n m) false
      rw [beq_f.2 (by omega), bs_false]; rfl
  | neg k n => cases hy with
    | int k m =>
      show _ = bs (Nat.beq (ofK kd + 1) (ofK kd)) (Nat.beq n m) false
      rw [beq_f.2 (by omega), bs_false]; rfl
    | neg k m =>
      show _ = bs (Nat.beq (ofK kd + 1) (ofK kd + 1)) (Nat.beq n m) false
      rw [beq_t.2 rfl, bs_true]; apply key; rw [beq_t]; simp

theorem eqGuard_flat {op : BinOp} {t : TypeId} {x y : Operand} {A B : Value} (h1 : A ≠ .nilIface) (h2 : ∀ c, A ≠ .agg c) : (eqGuard op t x y A B).run P w = .ok () w := by
  unfold eqGuard
  cases op <;> first
    | rfl
    | (cases A <;> first | exact absurd rfl h1 | exact absurd rfl (h2 _) | rfl)

/-- a comparison or a sum of two operands -/
theorem bin_run {op : BinOp} {t u : TypeId} {X Y : Operand} {ev : Operand → Value} {o : Oper} {R : Value} (ho : o.op = .binOp op t X Y u) (h1 : ev X ≠ .nilIface) (h2 : ∀ c, ev X ≠ .agg c)
    (h : (binOp op t (ev X) (ev Y)).run P w = .ok R w) : (execOp ev o).run P w = .ok (.value R) w := by
  unfold execOp; rw [ho]
  refine vrun ?_
  simp only [Sem.run_bind]
  rw [eqGuard_flat h1 h2]
  exact h

theorem binInt_ok {kd : IntKind} {F : V → V → KV → Res} {G : Int → Int → Option Value} (hF : IntFn kd F G) {op : BinOp} {t u : TypeId} {X Y : Operand} {ev : Operand → Value} {o : Oper}
    (ho : o.op = .binOp op t X Y u) (hG : ∀ a b R, G a b = some R → ∀ w, (binOp op t (.int kd a) (.int kd b)).run P w = .ok R w)
    {x y : Od} (hR : Rel lc ρ s w) (hx : Opd ρ (x e) (ev X)) (hy : Opd ρ (y e) (ev Y)) (h : bI F x y call e s k = some q) : Does P lc ρ s w (execOp ev o) k q := by
  obtain ⟨v, h, hv⟩ := hx _ _ h
  obtain ⟨u, h, hu⟩ := hy _ _ h
  obtain ⟨a, b, r, R, ha, hb, hg, hk, hr⟩ := hF ρ v u _ _ _ q hv hu h
  refine .same hR hk (bin_run ho ?_ ?_ ?_) hr
  · rw [ha]; simp
  · rw [ha]; simp
  · rw [ha, hb]; exact hG a b R hg w

theorem cmpI_fn (kd : IntKind) (f : Bool → Bool) : IntFn kd (fun x y g => leI (ofK kd) x y fun b => vB (f b) g) fun a b => some (.bool (f (decide (a ≤ b)))) := by
  intro ρ x y X Y g q hx hy h
  obtain ⟨a, b, ha, hb, h⟩ := leI_some hx hy h
  obtain ⟨v, hv, hr⟩ := vB_some h
  exact ⟨a, b, v, _, ha, hb, rfl, hv, hr⟩
theorem cmpI_fn' (kd : IntKind) (f : Bool → Bool) : IntFn kd (fun x y g => leI (ofK kd) y x fun b => vB (f b) g) fun a b => some (.bool (f (decide (b ≤ a)))) := by
  intro ρ x y X Y g q hx hy h
  obtain ⟨a, b, ha, hb, h⟩ := leI_some hy hx h
  obtain ⟨v, hv, hr⟩ := vB_some h
  exact ⟨b, a, v, _, hb, ha, rfl, hv, hr⟩
theorem eqI_fn (kd : IntKind) (f : Bool → Bool) : IntFn kd (fun x y g => eqI (ofK kd) x y fun b => vB (f b) g) fun a b => some (.bool (f (a == b))) := by
  intro ρ x y X Y g q hx hy h
  obtain ⟨a, b, ha, hb, h⟩ := eqI_some hx hy h
  obtain ⟨v, hv, hr⟩ := vB_some h
  exact ⟨a, b, v, _, ha, hb, rfl, hv, hr⟩
theorem nB_not (b : Bool) : nB b = !b := by cases b <;> rfl
theorem nB_le (a b : Int) : nB (decide (b ≤ a)) = decide (a < b) := by
  rw [nB_not]; by_cases h : b ≤ a
  · simp [h]
  · simp [h]; omega

section
variable {kd : IntKind} {t u : TypeId} {X Y : Operand} {ev : Operand → Value} {o : Oper} {x y : Od}
theorem add_ok (ho : o.op = .binOp .add t X Y u) (hR : Rel lc ρ s w) (hx : Opd ρ (x e) (ev X)) (hy : Opd ρ (y e) (ev Y)) (h : oAdd (ofK kd) x y call e s k = some q) : Does P lc ρ s w (execOp ev o) k q :=
  binInt_ok (addI_fn kd) ho (fun a b R hg w => by cases hg; simp only [binOp, ne_eq, not_true, if_false]; rfl) hR hx hy h
theorem sub_ok (ho : o.op = .binOp .sub t X Y u) (hR : Rel lc ρ s w) (hx : Opd ρ (x e) (ev X)) (hy : Opd ρ (y e) (ev Y)) (h : oSub (ofK kd) x y call e s k = some q) : Does P lc ρ s w (execOp ev o) k q :=
  binInt_ok (subI_fn kd) ho (fun a b R hg w => by cases hg; simp only [binOp, ne_eq, not_true, if_false]; rfl) hR hx hy h
theorem mul_ok (ho : o.op = .binOp .mul t X Y u) (hR : Rel lc ρ s w) (hx : Opd ρ (x e) (ev X)) (hy : Opd ρ (y e) (ev Y)) (h : oMul (ofK kd) x y call e s k = some q) : Does P lc ρ s w (execOp ev o) k q :=
  binInt_ok (mulI_fn kd) ho (fun a b R hg w => by cases hg; simp only [binOp, ne_eq, not_true, if_false]; rfl) hR hx hy h
theorem quo_ok (ho : o.op = .binOp .quo t X Y u) (hR : Rel lc ρ s w) (hx : Opd ρ (x e) (ev X)) (hy : Opd ρ (y e) (ev Y)) (h : oQuo (ofK kd) x y call e s k = some q) : Does P lc ρ s w (execOp ev o) k q :=
  binInt_ok (quoI_fn kd) ho (fun a b R hg w => by
    simp only [binOp, ne_eq, not_true, if_false, Op.intDiv]
    by_cases hb : b = 0
    · rw [if_pos hb] at hg; cases hg
    · rw [if_neg hb] at hg ⊢; cases hg; rfl) hR hx hy h
theorem rem_ok (ho : o.op = .binOp .rem t X Y u) (hR : Rel lc ρ s w) (hx : Opd ρ (x e) (ev X)) (hy : Opd ρ (y e) (ev Y)) (h : oRem (ofK kd) x y call e s k = some q) : Does P lc ρ s w (execOp ev o) k q :=
  binInt_ok (remI_fn kd) ho (fun a b R hg w => by
    simp only [binOp, ne_eq, not_true, if_false, Op.intDiv]
    by_cases hb : b = 0
    · rw [if_pos hb] at hg; cases hg
    · rw [if_neg hb] at hg ⊢; cases hg; rfl) hR hx hy h
theorem lss_ok (ho : o.op = .binOp .lss t X Y u) (hR : Rel lc ρ s w) (hx : Opd ρ (x e) (ev X)) (hy : Opd ρ (y e) (ev Y)) (h : oLss (ofK kd) x y call e s k = some q) : Does P lc ρ s w (execOp ev o) k q :=
  binInt_ok (cmpI_fn' kd nB) ho (fun a b R hg w => by cases hg; simp only [binOp, ne_eq, not_true, if_false]; rw [nB_le]; rfl) hR hx hy h
theorem leq_ok (ho : o.op = .binOp .leq t X Y u) (hR : Rel lc ρ s w) (hx : Opd ρ (x e) (ev X)) (hy : Opd ρ (y e) (ev Y)) (h : oLeq (ofK kd) x y call e s k = some q) : Does P lc ρ s w (execOp ev o) k q :=
  binInt_ok (cmpI_fn kd fun b => b) ho (fun a b R hg w => by cases hg; simp only [binOp, ne_eq, not_true, if_false]; rfl) hR hx hy h
theorem gtr_ok (ho : o.op = .binOp .gtr t X Y u) (hR : Rel lc ρ s w) (hx : Opd ρ (x e) (ev X)) (hy : Opd ρ (y e) (ev Y)) (h : oGtr (ofK kd) x y call e s k = some q) : Does P lc ρ s w (execOp ev o) k q :=
  binInt_ok (cmpI_fn kd nB) ho (fun a b R hg w => by cases hg; simp only [binOp, ne_eq, not_true, if_false]; rw [nB_le]; rfl) hR hx hy h
theorem geq_ok (ho : o.op = .binOp .geq t X Y u) (hR : Rel lc ρ s w) (hx : Opd ρ (x e) (ev X)) (hy : Opd ρ (y e) (ev Y)) (h : oGeq (ofK kd) x y call e s k = some q) : Does P lc ρ s w (execOp ev o) k q :=
  binInt_ok (cmpI_fn' kd fun b => b) ho (fun a b R hg w => by cases hg; simp only [binOp, ne_eq, not_true, if_false]; rfl) hR hx hy h
theorem eqi_ok (ho : o.op = .binOp .eql t X Y u) (hR : Rel lc ρ s w) (hx : Opd ρ (x e) (ev X)) (hy : Opd ρ (y e) (ev Y)) (h : oEqI (ofK kd) x y call e s k = some q) : Does P lc ρ s w (execOp ev o) k q :=
  binInt_ok (eqI_fn kd fun b => b) ho (fun a b R hg w => by cases hg; simp only [binOp, ne_eq, not_true, if_false]; rfl) hR hx hy h
theorem nei_ok (ho : o.op = .binOp .neq t X Y u) (hR : Rel lc ρ s w) (hx : Opd ρ (x e) (ev X)) (hy : Opd ρ (y e) (ev Y)) (h : oNeI (ofK kd) x y call e s k = some q) : Does P lc ρ s w (execOp ev o) k q :=
  binInt_ok (eqI_fn kd nB) ho (fun a b R hg w => by cases hg; simp only [binOp, ne_eq, not_true, if_false]; rw [nB_not]; rfl) hR hx hy h
end
end
end Go.Lm
