/- A region that draws: what the evaluator has seen of it. -/
import Derived.Test.YtnnadeeoejchpaaLmDraw1
set_option linter.all false
namespace Go.Lm

noncomputable def eqVL (l : List V) : List V → Bool :=
  V.rec_1 (motive_1 := fun _ => V → Bool) (motive_2 := fun _ => List V → Bool)
    (fun t a b c d s _ ih y => bs (Nat.beq t y.t) (bs (Nat.beq a y.a) (bs (Nat.beq b y.b) (bs (Nat.beq c y.c) (bs (Nat.beq d y.d) (bs (eqNs s y.s) (ih y.l) false) false) false) false) false) false)
    (fun m => List.rec (motive := fun _ => Bool) true (fun _ _ _ => false) m)
    (fun _ _ ih1 ih2 m => List.rec (motive := fun _ => Bool) false (fun y m _ => bs (ih1 y) (ih2 m) false) m) l

theorem bsb {b x : Bool} (h : bs b x false = true) : b = true ∧ x = true := by cases b <;> simp_all
mutual
theorem eqV_eq : ∀ (x y : V), eqV x y = true → x = y
  | ⟨t, a, b, c, d, s, l⟩, ⟨t', a', b', c', d', s', l'⟩, h => by
    have h : bs (Nat.beq t t') (bs (Nat.beq a a') (bs (Nat.beq b b') (bs (Nat.beq c c') (bs (Nat.beq d d') (bs (eqNs s s') (eqVL l l') false) false) false) false) false) false = true := h
    obtain ⟨h1, h⟩ := bsb h
    obtain ⟨h2, h⟩ := bsb h
    obtain ⟨h3, h⟩ := bsb h
    obtain ⟨h4, h⟩ := bsb h
    obtain ⟨h5, h⟩ := bsb h
    obtain ⟨h6, h⟩ := bsb h
    rw [eqNs_iff] at h6
    rw [beq_t.1 h1, beq_t.1 h2, beq_t.1 h3, beq_t.1 h4, beq_t.1 h5, of_decide_eq_true h6, eqVL_eq l l' h]
theorem eqVL_eq : ∀ (l m : List V), eqVL l m = true → l = m
  | [], [], _ => rfl
  | [], _ :: _, h => by cases h
  | _ :: _, [], h => by cases h
  | x :: l, y :: m, h => by
    have h : bs (eqV x y) (eqVL l m) false = true := h
    obtain ⟨h1, h2⟩ := bsb h
    rw [eqV_eq x y h1, eqVL_eq l m h2]
end

noncomputable def okVL (n : Nat) (l : List V) : Bool :=
  V.rec_1 (motive_1 := fun _ => Bool) (motive_2 := fun _ => Bool)
    (fun t a _ _ _ _ _ ih => bs (bs (Nat.beq t 4) true (bs (Nat.beq t 6) true (bs (Nat.beq t 8) true (bs (Nat.beq t 9) true (Nat.beq t 15))))) (bs (Nat.ble (Nat.succ a) n) ih false) ih)
    true (fun _ _ a b => bs a b false) l
mutual
theorem okV_VS {n : Nat} : ∀ (v : V), okV n v = true → VS n v
  | ⟨t, a, b, c, d, s, l⟩, h => by
    have h : bs (bs (Nat.beq t 4) true (bs (Nat.beq t 6) true (bs (Nat.beq t 8) true (bs (Nat.beq t 9) true (Nat.beq t 15))))) (bs (Nat.ble (Nat.succ a) n) (okVL n l) false) (okVL n l) = true := h
    by_cases ht : bs (Nat.beq t 4) true (bs (Nat.beq t 6) true (bs (Nat.beq t 8) true (bs (Nat.beq t 9) true (Nat.beq t 15)))) = true
    · rw [ht] at h
      obtain ⟨h1, h2⟩ := bsb h
      exact .mk (fun _ => ble_t.1 h1) (okVL_VS l h2)
    · rw [Bool.not_eq_true] at ht
      rw [ht] at h
      refine .mk (fun e => ?_) (okVL_VS l h)
      exfalso
      rcases e with e | e | e | e | e <;> (dsimp only at e; subst e; cases ht)
theorem okVL_VS {n : Nat} : ∀ (l : List V), okVL n l = true → VSL n l
  | [], _ => .nil
  | v :: l, h => by
    have h : bs (okV n v) (okVL n l) false = true := h
    obtain ⟨h1, h2⟩ := bsb h
    exact .cons (okV_VS v h1) (okVL_VS l h2)
end

noncomputable def subE : List Nat → Env → Env
  | [], _ => .nl
  | t :: us, e => match e.get t with | none => subE us e | some v => T.set (subE us e) t v
theorem subK_eq : ∀ (us : List Nat) (e : Env) (k : Env → Res), subK us e k = k (subE us e)
  | [], e, k => rfl
  | t :: us, e, k => by
    have h : subK (t :: us) e k = subK us e fun e' => Option.rec (motive := fun _ => Res) (k e') (fun v => e'.setK t v k) (e.get t) := rfl
    have h2 : subE (t :: us) e = (match e.get t with | none => subE us e | some v => T.set (subE us e) t v) := rfl
    rw [h, subK_eq us e, h2]
    cases e.get t with
    | none => rfl
    | some v => simp
theorem subE_get : ∀ {us : List Nat} {e : Env} {t : Nat} {v : V}, (subE us e).get t = some v → t ∈ us ∧ e.get t = some v
  | [], e, t, v, h => by rw [subE, T.get_nl] at h; cases h
  | u :: us, e, t, v, h => by
    unfold subE at h
    cases hu : e.get u with
    | none =>
      rw [hu] at h
      have := subE_get h; exact ⟨List.mem_cons_of_mem _ this.1, this.2⟩
    | some x =>
      rw [hu] at h
      dsimp only at h
      rw [T.get_set] at h
      by_cases e1 : u = t
      · subst e1; rw [if_pos rfl] at h; rw [hu]; exact ⟨List.mem_cons_self .., h⟩
      · rw [if_neg e1] at h
        have := subE_get h; exact ⟨List.mem_cons_of_mem _ this.1, this.2⟩

theorem addSides_get {mask : Nat} {h : T Cell} {id : Nat} {c : Cell} : ∀ {l : List Side}, (addSides mask l h).get id = some c →
    (∃ x ∈ l, mask.testBit x.j = true ∧ x.id = id ∧ x.c = c) ∨ ((∀ x ∈ l, mask.testBit x.j = true → x.id ≠ id) ∧ h.get id = some c)
  | [], hc => .inr ⟨fun x hx => (by cases hx), hc⟩
  | x :: l, hc => by
    have hc : (bs (Nat.testBit mask x.j) ((addSides mask l h).set x.id x.c) (addSides mask l h)).get id = some c := hc
    rw [bs_ite] at hc
    by_cases hm : mask.testBit x.j = true
    · rw [if_pos hm, T.get_set] at hc
      by_cases e : x.id = id
      · rw [if_pos e] at hc; exact .inl ⟨x, List.mem_cons_self .., hm, e, Option.some.inj hc⟩
      · rw [if_neg e] at hc
        rcases addSides_get hc with ⟨y, hy, r⟩ | ⟨h1, h2⟩
        · exact .inl ⟨y, List.mem_cons_of_mem _ hy, r⟩
        · refine .inr ⟨fun y hy hm => ?_, h2⟩
          rcases List.mem_cons.1 hy with rfl | hy
          · exact e
          · exact h1 y hy hm
    · rw [if_neg hm] at hc
      rcases addSides_get hc with ⟨y, hy, r⟩ | ⟨h1, h2⟩
      · exact .inl ⟨y, List.mem_cons_of_mem _ hy, r⟩
      · refine .inr ⟨fun y hy hm' => ?_, h2⟩
        rcases List.mem_cons.1 hy with rfl | hy
        · exact absurd hm' hm
        · exact h1 y hy hm'
theorem mem_keepSides {mask : Nat} : ∀ {l : List Side} {x : Side}, x ∈ keepSides mask l ↔ x ∈ l ∧ mask.testBit x.j = false
  | [], x => ⟨fun h => (by cases h), fun h => (by cases h.1)⟩
  | y :: l, x => by
    have : keepSides mask (y :: l) = bs (Nat.testBit mask y.j) (keepSides mask l) (y :: keepSides mask l) := rfl
    rw [this, bs_ite]
    by_cases hm : mask.testBit y.j = true
    · rw [if_pos hm, mem_keepSides]
      refine ⟨fun ⟨a, b⟩ => ⟨List.mem_cons_of_mem _ a, b⟩, fun ⟨a, b⟩ => ⟨?_, b⟩⟩
      rcases List.mem_cons.1 a with rfl | a
      · rw [hm] at b; cases b
      · exact a
    · rw [if_neg hm, List.mem_cons, List.mem_cons, mem_keepSides]
      refine ⟨fun h => ?_, fun ⟨a, b⟩ => ?_⟩
      · rcases h with rfl | ⟨a, b⟩
        · exact ⟨.inl rfl, by simpa using hm⟩
        · exact ⟨.inr a, b⟩
      · rcases a with rfl | a
        · exact .inl rfl
        · exact .inr ⟨a, b⟩
theorem mem_keepPend {j mask : Nat} : ∀ {l : List Pend} {x : Pend}, x ∈ keepPend j mask l ↔ x ∈ l ∧ mask.testBit x.j = false
  | [], x => ⟨fun h => (by cases h), fun h => (by cases h.1)⟩
  | y :: l, x => by
    have : keepPend j mask (y :: l) = bs (Nat.testBit mask y.j) (keepPend j mask l) (y :: keepPend j mask l) := rfl
    rw [this, bs_ite]
    by_cases hm : mask.testBit y.j = true
    · rw [if_pos hm, mem_keepPend]
      refine ⟨fun ⟨a, b⟩ => ⟨List.mem_cons_of_mem _ a, b⟩, fun ⟨a, b⟩ => ⟨?_, b⟩⟩
      rcases List.mem_cons.1 a with rfl | a
      · rw [hm] at b; cases b
      · exact a
    · rw [if_neg hm, List.mem_cons, List.mem_cons, mem_keepPend]
      refine ⟨fun h => ?_, fun ⟨a, b⟩ => ?_⟩
      · rcases h with rfl | ⟨a, b⟩
        · exact ⟨.inl rfl, by simpa using hm⟩
        · exact ⟨.inr a, b⟩
      · rcases a with rfl | a
        · exact .inl rfl
        · exact .inr ⟨a, b⟩

section
variable {call : Caller} {q : V × St}
theorem obr_some {r : Res} {f : V → St → Res} (h : obr r f = some q) : ∃ v s, r = some (v, s) ∧ f v s = some q := by
  cases r with
  | none => cases h
  | some p => exact ⟨p.1, p.2, rfl, h⟩

theorem sameHist_some {o : Opr} {e : Env} {n bef : Nat} {sides : List Side} {v : V} {k : Res} : ∀ {l : List Hist}, sameHist call o e n bef sides v l k = some q →
    k = some q ∧ ∀ x ∈ l, bef.testBit x.j = false → ∃ u, o call e ⟨addSides bef sides x.h, n⟩ ret = some (v, u)
  | [], h => ⟨h, fun x hx => by cases hx⟩
  | y :: l, h => by
    have h : bs (Nat.testBit bef y.j) (sameHist call o e n bef sides v l k) (obr (o call e ⟨addSides bef sides y.h, n⟩ ret) fun v' _ => chk (eqV v v') (sameHist call o e n bef sides v l k)) = some q := h
    rcases bs_some.1 h with ⟨h1, h⟩ | ⟨h1, h⟩
    · obtain ⟨h2, h3⟩ := sameHist_some h
      refine ⟨h2, fun x hx hb => ?_⟩
      rcases List.mem_cons.1 hx with rfl | hx
      · rw [h1] at hb; cases hb
      · exact h3 x hx hb
    · obtain ⟨v', u, h2, h⟩ := obr_some h
      obtain ⟨h4, h⟩ := chk_some.1 h
      obtain ⟨h5, h6⟩ := sameHist_some h
      refine ⟨h5, fun x hx hb => ?_⟩
      rcases List.mem_cons.1 hx with rfl | hx
      · rw [eqV_eq _ _ h4]; exact ⟨u, h2⟩
      · exact h6 x hx hb
theorem samePend_some {c : St} {sides : List Side} {k : Res} : ∀ {l : List Pend}, samePend call c sides l k = some q →
    k = some q ∧ ∀ x ∈ l, ∃ u, x.o call x.e ⟨addSides x.bef sides c.h, c.n⟩ ret = some (x.v, u)
  | [], h => ⟨h, fun x hx => by cases hx⟩
  | y :: l, h => by
    have h : (obr (y.o call y.e ⟨addSides y.bef sides c.h, c.n⟩ ret) fun v' _ => chk (eqV y.v v') (samePend call c sides l k)) = some q := h
    obtain ⟨v', u, h2, h⟩ := obr_some h
    obtain ⟨h4, h⟩ := chk_some.1 h
    obtain ⟨h5, h6⟩ := samePend_some h
    refine ⟨h5, fun x hx => ?_⟩
    rcases List.mem_cons.1 hx with rfl | hx
    · rw [eqV_eq _ _ h4]; exact ⟨u, h2⟩
    · exact h6 x hx
theorem allHist_some {bef : Nat} : ∀ {l : List Hist}, allHist bef l = true → ∀ x ∈ l, bef.testBit x.j = true
  | [], _, x, hx => by cases hx
  | y :: l, h, x, hx => by
    have h : bs (Nat.testBit bef y.j) (allHist bef l) false = true := h
    obtain ⟨h1, h2⟩ := bsb h
    rcases List.mem_cons.1 hx with rfl | hx
    · exact h1
    · exact allHist_some h2 x hx
theorem noSides_some {h : T Cell} {k : Res} : ∀ {l : List Side}, noSides l h k = some q → k = some q ∧ ∀ x ∈ l, h.get x.id = none
  | [], hk => ⟨hk, fun x hx => by cases hx⟩
  | y :: l, hk => by
    have hk : Option.rec (motive := fun _ => Res) (noSides l h k) (fun _ => none) (h.get y.id) = some q := hk
    cases hy : h.get y.id with
    | some c => rw [hy] at hk; cases hk
    | none =>
      rw [hy] at hk
      obtain ⟨h1, h2⟩ := noSides_some hk
      refine ⟨h1, fun x hx => ?_⟩
      rcases List.mem_cons.1 hx with rfl | hx
      · exact hy
      · exact h2 x hx

def WantR (g : Nat) (e : Env) (b : Bool) : Prop := match g with
  | 0 => b = true
  | g + 1 => ∃ v, e.get (g / 2) = some v ∧ ((v.t ≤ 1 ∧ b = decide (v.t = g % 2)) ∨ (v.t = 14 ∧ b = false))
theorem wantD_some {g : Nat} {e : Env} {y n : Res} (h : wantD g e y n = some q) : (WantR g e true ∧ y = some q) ∨ (WantR g e false ∧ n = some q) := by
  cases g with
  | zero => exact .inl ⟨rfl, h⟩
  | succ g =>
    have h : Option.rec (motive := fun _ => Res) none (fun v => want v (Nat.mod g 2) y n) (e.get (Nat.div g 2)) = some q := h
    rw [orec] at h
    obtain ⟨v, hv, h⟩ := bind_some.1 h
    unfold want at h
    rcases bs_some.1 h with ⟨h1, h⟩ | ⟨h1, h⟩
    · rcases bs_some.1 h with ⟨h2, h⟩ | ⟨h2, h⟩
      · exact .inl ⟨⟨v, hv, .inl ⟨ble_t.1 h1, (decide_eq_true (beq_t.1 h2)).symm⟩⟩, h⟩
      · exact .inr ⟨⟨v, hv, .inl ⟨ble_t.1 h1, (decide_eq_false (beq_f.1 h2)).symm⟩⟩, h⟩
    · obtain ⟨h2, h⟩ := chk_some.1 h
      exact .inr ⟨⟨v, hv, .inr ⟨beq_t.1 h2, rfl⟩⟩, h⟩

/-- an operation of a region that draws, as the evaluator runs it: the next state, its value, what it is: 0 only reads · 1 lays a new block · 2 whatever else · 3 is not wanted -/
inductive StepOk (call : Caller) (x : DI) (j : Nat) (s : DS) : DS → V → Nat → Prop
  | skip : WantR x.g s.e false → StepOk call x j s ⟨setD s.e x.d undefV, s.c, s.sides, s.hist, s.pend⟩ undefV 3
  | P {v : V} {u : St} : WantR x.g s.e true → x.cls = 0 → x.o call (subE x.us s.e) ⟨addSides x.bef s.sides s.c.h, s.c.n⟩ ret = some (v, u) →
      (∀ y ∈ s.hist, x.bef.testBit y.j = false → ∃ u, x.o call (subE x.us s.e) ⟨addSides x.bef s.sides y.h, s.c.n⟩ ret = some (v, u)) → VS s.c.n v →
      StepOk call x j s ⟨setD s.e x.d v, s.c, s.sides, s.hist, ⟨j, x.bef, x.o, subE x.us s.e, v⟩ :: s.pend⟩ v 0
  | F {v : V} {s' : St} : WantR x.g s.e true → x.o call (subE x.us s.e) ⟨.nl, s.c.n⟩ ret = some (v, s') → s'.n = s.c.n + 1 →
      StepOk call x j s ⟨setD s.e x.d v, ⟨s.c.h, s'.n⟩, ⟨j, s.c.n, s'.at s.c.n⟩ :: s.sides, s.hist, s.pend⟩ v 1
  | E {v : V} {c' : St} : WantR x.g s.e true → (∀ y ∈ s.hist, x.bef.testBit y.j = true) → x.o call (subE x.us s.e) ⟨addSides x.bef s.sides s.c.h, s.c.n⟩ ret = some (v, c') → s.c.n ≤ c'.n →
      (∀ y ∈ keepSides x.bef s.sides, c'.h.get y.id = none) → (∀ y ∈ keepPend j x.bef s.pend, ∃ u, y.o call y.e ⟨addSides y.bef (keepSides x.bef s.sides) c'.h, c'.n⟩ ret = some (y.v, u)) →
      StepOk call x j s ⟨setD s.e x.d v, c', keepSides x.bef s.sides, ⟨j, s.c.h⟩ :: s.hist, keepPend j x.bef s.pend⟩ v 2

theorem dStep_some {x : DI} {j : Nat} {s : DS} {k : DS → Res} (h : dStep x j call s k = some q) : ∃ s' v kd, k s' = some q ∧ StepOk call x j s s' v kd := by
  unfold dStep at h
  rcases wantD_some h with ⟨hw, h⟩ | ⟨hw, h⟩
  · cases hc : x.cls with
    | zero =>
      rw [hc] at h
      have h : dP x j call s k = some q := h
      unfold dP at h
      rw [subK_eq] at h
      obtain ⟨v, u, h1, h⟩ := obr_some h
      obtain ⟨h0, h⟩ := chk_some.1 h
      obtain ⟨h2, h3⟩ := sameHist_some h
      exact ⟨_, v, 0, h2, .P hw hc h1 h3 (okV_VS _ h0)⟩
    | succ c => cases c with
      | zero =>
        rw [hc] at h
        have h : dF x j call s k = some q := h
        unfold dF at h
        rw [subK_eq] at h
        obtain ⟨v, u, h1, h⟩ := obr_some h
        obtain ⟨h2, h⟩ := chk_some.1 h
        exact ⟨_, v, 1, h, .F hw h1 (beq_t.1 h2)⟩
      | succ c =>
        rw [hc] at h
        have h : dE x j call s k = some q := h
        unfold dE at h
        rw [subK_eq] at h
        obtain ⟨h0, h⟩ := chk_some.1 h
        obtain ⟨v, u, h1, h⟩ := obr_some h
        obtain ⟨h2, h⟩ := chk_some.1 h
        obtain ⟨h, h3⟩ := noSides_some h
        obtain ⟨h, h4⟩ := samePend_some h
        exact ⟨_, v, 2, h, .E hw (allHist_some h0) h1 (ble_t.1 h2) h3 h4⟩
  · exact ⟨_, undefV, 3, h, .skip hw⟩

/-- the states that the evaluator goes through -/
def Tr (call : Caller) (l : List DI) (j0 : Nat) (st : Nat → DS) (val : Nat → V) (kd : Nat → Nat) : Prop := ∀ i x, l[i]? = some x → StepOk call x (j0 + i) (st (j0 + i)) (st (j0 + i + 1)) (val (j0 + i)) (kd (j0 + i))

theorem evD_some : ∀ {l : List DI} {j0 : Nat} {s : DS} {k : DS → Res}, evD l j0 call s k = some q → ∃ st val kd, st j0 = s ∧ Tr call l j0 st val kd ∧ k (st (j0 + l.length)) = some q
  | [], j0, s, k, h => ⟨fun _ => s, fun _ => undefV, fun _ => 0, rfl, fun i x hx => (by simp at hx), h⟩
  | x :: l, j0, s, k, h => by
    have h : (dStep x j0 call s fun s => evD l (j0 + 1) call s k) = some q := h
    obtain ⟨s', v, kd, h1, h2⟩ := dStep_some h
    obtain ⟨st, vl, kds, h3, h4, h5⟩ := evD_some h1
    refine ⟨fun i => if i = j0 then s else st i, fun i => if i = j0 then v else vl i, fun i => if i = j0 then kd else kds i, by simp, fun i y hy => ?_, ?_⟩
    · cases i with
      | zero =>
        simp only [List.getElem?_cons_zero, Option.some.injEq] at hy
        subst hy
        simp only [Nat.add_zero, if_true]
        rw [if_neg (by omega), h3]
        exact h2
      | succ i =>
        have := h4 i y (by simpa using hy)
        have e1 : j0 + (i + 1) = j0 + 1 + i := by omega
        rw [e1]
        dsimp only
        rw [if_neg (by omega), if_neg (by omega), if_neg (by omega), if_neg (by omega)]
        exact this
    · dsimp only
      rw [if_neg (by simp)]
      have e1 : j0 + (x :: l).length = j0 + 1 + l.length := by simp; omega
      rw [e1]; exact h5
end
end Go.Lm
