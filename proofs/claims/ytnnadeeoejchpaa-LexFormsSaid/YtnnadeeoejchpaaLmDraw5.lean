/- A region that draws: what holds of whatever is done of it. -/
import Derived.Test.YtnnadeeoejchpaaLmPure
import Derived.OrdersIn
set_option linter.all false
namespace Go.Lm

def SideOn (l : List DI) (kd : Nat → Nat) (S : Nat → Bool) (f : Nat) : Prop := f < l.length ∧ S f = true ∧ kd f = 1 ∧ ∀ e, e < l.length → S e = true → kd e = 2 → (bf l e).testBit f = false
def HS (l : List DI) (st : Nat → DS) (kd : Nat → Nat) (S : Nat → Bool) (c : Nat) : Hp := fun id x => (∃ f, SideOn l kd S f ∧ (st f).c.n = id ∧ cellAt st f = x) ∨ (st c).c.h.get id = some x
def Cur (l : List DI) (kd : Nat → Nat) (S : Nat → Bool) (c : Nat) : Prop := c ≤ l.length ∧ (c = 0 ∨ ∃ e, c = e + 1 ∧ kd e = 2 ∧ S e = true) ∧ ∀ e, e < l.length → kd e = 2 → S e = true → e < c

structure Stat (P : Program) (N D : Nat) (ops : Array Oper) (l : List DI) (call : Caller) (st : Nat → DS) (val : Nat → V) (kd : Nat → Nat) : Prop where
  tr : Trace call l st val kd
  reg : RegOk P N D ops l
  noD : NoD D (st 0).e
  env0 : ∀ t v, (st 0).e.get t = some v → VS (st 0).c.n v
  hB : N ≤ 1000000

structure Inv (lc : Lc) (N : Nat) (ops : Array Oper) (l : List DI) (st : Nat → DS) (val : Nat → V) (kd : Nat → Nat) (ρ0 : Rho) (w0 : World) (a0 : Act) (S : Nat → Bool) (c : Nat) (ρ : Rho) (a : Act) (w : World) : Prop where
  cl : Closed ops S
  cur : Cur l kd S c
  go : GoesF lc ρ0 (hpOf (st 0).c) w0 ρ (HS l st kd S c) w
  sz : a.tmps.size = N
  df : a.defers = a0.defers
  env : ∀ t v, viewS l val (st 0).e S l.length t = some v → VR ρ v (a.tmps.getD t undef)
  vs : ∀ k, k < l.length → S k = true → VS (st (k + 1)).c.n (val k)
  ids : ∀ i p, ρ i = some p → i < (st 0).c.n ∨ ∃ k, k < l.length ∧ S k = true ∧ (st k).c.n ≤ i ∧ i < (st (k + 1)).c.n
  fresh : ∀ i p, ρ i = some p → i < (st 0).c.n → ρ0 i = some p
  dom : ∀ i x, (st c).c.h.get i = some x → i < (st c).c.n ∧ (x.t ≠ 4 → CellVS (st c).c.n x)
  sv : ∀ f, f < l.length → S f = true → kd f = 1 → (cellAt st f).t ≠ 4 → CellVS (st (f + 1)).c.n (cellAt st f)

section
variable {P : Program} {lc : Lc} {F : Fence} {n N D : Nat} {ops : Array Oper} {l : List DI} {call : Caller}
variable {st : Nat → DS} {val : Nat → V} {kd : Nat → Nat} {ρ0 : Rho} {w0 : World} {a0 : Act}
variable {S : Nat → Bool} {c : Nat} {ρ : Rho} {a : Act} {w : World} {i : Nat} {o : Oper}

theorem Stat.lt (T : Stat P N D ops l call st val kd) (ho : ops[i]? = some o) : i < l.length := by
  rw [T.reg.len]
  rcases Nat.lt_or_ge i ops.size with h | h
  · exact h
  · rw [Array.getElem?_eq_none h] at ho; cases ho
theorem Stat.op (T : Stat P N D ops l call st val kd) (hi : i < l.length) : ∃ o, ops[i]? = some o := by
  rw [T.reg.len] at hi
  exact ⟨ops[i], by simp [hi]⟩

/-- what stands ahead of what is done is done -/
theorem Inv.bef (T : Stat P N D ops l call st val kd) (I : Inv lc N ops l st val kd ρ0 w0 a0 S c ρ a w) {e j : Nat} (he : e < l.length) (hS : S e = true) (hj : (bf l e).testBit j = true) : S j = true := by
  obtain ⟨o, ho⟩ := T.op he
  exact T.reg.closed I.cl e o ho (I.cl e o ho hS) j hj

theorem Inv.alpha (T : Stat P N D ops l call st val kd) (I : Inv lc N ops l st val kd ρ0 w0 a0 S c ρ a w) {f : Nat} (hfl : f < l.length) (hfk : kd f = 1) (hfb : ∀ e, e < l.length → S e = true → kd e = 2 → (bf l e).testBit f = false) : (st c).c.h.get (st f).c.n = none := by
  cases hx : (st c).c.h.get (st f).c.n with
  | none => rfl
  | some x =>
    exfalso
    have h1 := (I.dom _ _ hx).1
    obtain ⟨hc1, hc2, hc3⟩ := I.cur
    have hfc : f < c := by
      rcases Nat.lt_or_ge f c with h | h
      · exact h
      · have := T.tr.n_mono h (by omega); omega
    rcases hc2 with rfl | ⟨e, rfl, hek, heS⟩
    · omega
    have hfe : f < e := by
      rcases Nat.lt_or_ge f e with h | h
      · exact h
      · have : f = e := by omega
        subst this; omega
    obtain ⟨y, hy, hyj⟩ := T.tr.sides_has hfk (i := e) (by omega) hfe fun e' h1 h2 h3 => hfb e' (by omega) (I.bef T (by omega) heS (T.tr.eff_bef h2 (by omega) h3 hek)) h3
    obtain ⟨_, _, hid, _, _⟩ := T.tr.sides_mem (by omega) hy
    have hb := hfb e (by omega) heS hek
    obtain ⟨d, hd, hs⟩ := T.tr.get (i := e) (by omega)
    rw [bf_some hd] at hb
    generalize st (e + 1) = s' at hs hx
    generalize val e = v at hs
    rw [hek] at hs
    cases hs with
    | E _ _ _ _ hns =>
      have := hns y (mem_keepSides.2 ⟨hy, by rw [hyj]; exact hb⟩)
      rw [hid, hyj] at this
      have hx : _ = some x := hx
      rw [this] at hx; cases hx

theorem Stat.n_inj (T : Stat P N D ops l call st val kd) {f f' : Nat} (hf : f < l.length) (hf' : f' < l.length) (hk : kd f = 1) (hk' : kd f' = 1) (h : (st f).c.n = (st f').c.n) : f = f' := by
  rcases Nat.lt_trichotomy f f' with h1 | h1 | h1
  · have := (T.tr.n_step hf).2 hk
    have := T.tr.n_mono (i := f + 1) (j := f') (by omega) (by omega); omega
  · exact h1
  · have := (T.tr.n_step hf').2 hk'
    have := T.tr.n_mono (i := f' + 1) (j := f) (by omega) (by omega); omega

theorem Inv.funct (T : Stat P N D ops l call st val kd) (I : Inv lc N ops l st val kd ρ0 w0 a0 S c ρ a w) {id : Nat} {x y : Cell} (hx : HS l st kd S c id x) (hy : HS l st kd S c id y) : x = y := by
  rcases hx with ⟨f, hf, h1, h2⟩ | hx
  · rcases hy with ⟨g, hg, h3, h4⟩ | hy
    · have := T.n_inj hf.1 hg.1 hf.2.2.1 hg.2.2.1 (h1.trans h3.symm)
      subst this; rw [← h2, ← h4]
    · rw [← h1, I.alpha T hf.1 hf.2.2.1 hf.2.2.2] at hy; cases hy
  · rcases hy with ⟨g, hg, h3, h4⟩ | hy
    · rw [← h3, I.alpha T hg.1 hg.2.2.1 hg.2.2.2] at hx; cases hx
    · rw [hx] at hy; exact Option.some.inj hy

/-- is an operation at hand? -/
structure Ready (ops : Array Oper) (S : Nat → Bool) (i : Nat) (o : Oper) : Prop where
  op : ops[i]? = some o
  no : S i = false
  yes : ∀ e ∈ o.after, Region.binds .any e = true → S e.on = true

theorem Ready.bef (T : Stat P N D ops l call st val kd) (I : Inv lc N ops l st val kd ρ0 w0 a0 S c ρ a w) (R : Ready ops S i o) {j : Nat} (hj : (bf l i).testBit j = true) : S j = true :=
  T.reg.closed I.cl i o R.op R.yes j hj
/-- none that is done waits for it -/
theorem Ready.not_bef (T : Stat P N D ops l call st val kd) (I : Inv lc N ops l st val kd ρ0 w0 a0 S c ρ a w) (R : Ready ops S i o) {e : Nat} (he : e < l.length) (hS : S e = true) : (bf l e).testBit i = false := by
  cases h : (bf l e).testBit i with
  | false => rfl
  | true => have := I.bef T he hS h; rw [R.no] at this; cases this

theorem compDI_d {m t : Nat} {o : Oper} (h : (compDI P D ops m o).d = t + 1) : o.dst = some t ∧ D.testBit t = false := by
  unfold compDI at h
  dsimp only at h
  cases hd : o.dst with
  | none => rw [hd] at h; cases h
  | some d =>
    rw [hd] at h
    have h : (if D.testBit d then 0 else 1 + (d : Nat)) = t + 1 := h
    by_cases hb : D.testBit d = true
    · rw [if_pos hb] at h; cases h
    · rw [if_neg hb] at h
      have e : (d : Nat) = t := Nat.add_left_cancel (h.trans (Nat.add_comm t 1))
      subst e
      exact ⟨rfl, by simpa using hb⟩
theorem compDI_d' {m d : Nat} {o : Oper} (h : o.dst = some d) (hb : D.testBit d = false) : (compDI P D ops m o).d = d + 1 := by
  unfold compDI
  dsimp only
  rw [h]
  show (if D.testBit d then 0 else 1 + d) = d + 1
  rw [hb]; simp only [Bool.false_eq_true, if_false]; omega

/-- of the operations that write a slot that it names those are done that stand ahead of it -/
theorem Ready.writers (T : Stat P N D ops l call st val kd) (I : Inv lc N ops l st val kd ρ0 w0 a0 S c ρ a w) (R : Ready ops S i o) {t k : Nat} (ht : t ∈ namesOf ops o) (hk : k < l.length) (hd : dd l k = t + 1) (hki : k ≠ i) :
    S k = true ↔ k < i := by
  obtain ⟨ok, hok⟩ := T.op hk
  obtain ⟨m, hm⟩ := T.reg.get k ok hok
  rw [dd_some hm] at hd
  have hdst : ok.dst = some t := (compDI_d hd).1
  have hh : hits ok.dst (namesOf ops o) = true := hits_iff.2 ⟨t, hdst, ht⟩
  constructor
  · intro hS
    rcases Nat.lt_trichotomy k i with h | h | h
    · exact h
    · exact absurd h hki
    · have := T.reg.tmp i k o ok h R.op hok (.inr hh)
      rw [R.not_bef T I hk hS] at this; cases this
  · intro h
    exact R.bef T I (T.reg.tmp k i ok o h hok R.op (.inl hh))

theorem Ready.opnd (T : Stat P N D ops l call st val kd) (I : Inv lc N ops l st val kd ρ0 w0 a0 S c ρ a w) (R : Ready ops S i o) {t : Nat} (ht : t ∈ namesOf ops o) :
    (st i).e.get t = viewS l val (st 0).e S l.length t := by
  have hi := T.lt R.op
  rw [T.tr.env (by omega) t]
  refine (view_eq (by omega) fun k hk hd => ?_).symm
  by_cases hki : k = i
  · subst hki; rw [R.no]; simp
  · exact R.writers T I ht hk hd hki

theorem Ready.opnd_vs (T : Stat P N D ops l call st val kd) (I : Inv lc N ops l st val kd ρ0 w0 a0 S c ρ a w) (R : Ready ops S i o) {t : Nat} {v : V} (ht : t ∈ namesOf ops o) (hv : (st i).e.get t = some v) :
    VR ρ v (a.tmps.getD t undef) ∧ VS (st i).c.n v := by
  have hi := T.lt R.op
  rw [R.opnd T I ht] at hv
  refine ⟨I.env t v hv, ?_⟩
  rcases view_mem hv with h | ⟨k, hk, hS, hd, rfl⟩
  · exact (T.env0 t v h).mono (T.tr.n_mono (Nat.zero_le _) (by omega))
  · have hki : k ≠ i := fun e => by subst e; rw [R.no] at hS; cases hS
    exact (I.vs k hk hS).mono (T.tr.n_mono ((R.writers T I ht hk hd hki).1 hS) (by omega))

theorem mem_names_us {t : Nat} (h : t ∈ usOf o) : t ∈ namesOf ops o := by unfold namesOf; exact List.mem_append_right _ h

theorem Ready.envR (T : Stat P N D ops l call st val kd) (I : Inv lc N ops l st val kd ρ0 w0 a0 S c ρ a w) (R : Ready ops S i o) {n1 : Nat} (hn : (st i).c.n ≤ n1) : EnvR (ρ.cut n1) (subE (usOf o) (st i).e) a := fun t v hv => by
  obtain ⟨h1, h2⟩ := subE_get hv
  obtain ⟨h3, h4⟩ := R.opnd_vs T I (mem_names_us h1) h2
  exact h3.cut (h4.mono hn)

theorem Ready.wanted (T : Stat P N D ops l call st val kd) (I : Inv lc N ops l st val kd ρ0 w0 a0 S c ρ a w) (R : Ready ops S i o) {m : Nat} {b : Bool} (h : WantR (compDI P D ops m o).g (st i).e b) : Region.wanted o (yielded ops a.tmps) = b := by
  unfold Region.wanted
  unfold compDI at h
  dsimp only at h
  cases hg : o.guard with
  | none => rw [hg] at h; exact (show b = true from h).symm
  | some jb =>
    obtain ⟨j, bb⟩ := jb
    rw [hg] at h
    dsimp only at h ⊢
    rw [Nat.add_comm 1] at h
    obtain ⟨v, hv, h⟩ := h
    have hb1 : bN1 bb < 2 := by cases bb <;> decide
    rw [show (2 * slotOf ops j + bN1 bb) / 2 = slotOf ops j by omega] at hv
    rw [show (2 * slotOf ops j + bN1 bb) % 2 = bN1 bb by omega] at h
    have ht : slotOf ops j ∈ namesOf ops o := by
      unfold namesOf; rw [hg]
      exact List.mem_append_left _ (List.mem_append_right _ (List.mem_singleton.2 rfl))
    have hr := (R.opnd_vs T I ht hv).1
    have hy := fun b => yielded_iff (ops := ops) I.sz T.hB j b
    rcases h with ⟨h1, rfl⟩ | ⟨h1, rfl⟩
    · have hX := bool_t hr h1
      have := (hy (Nat.beq v.t 1)).2 (by show a.tmps.getD (slotOf ops j) undef = _; rw [hX])
      rw [this]
      have h01 : v.t = 0 ∨ v.t = 1 := by omega
      rcases h01 with h | h <;> rw [h] <;> cases bb <;> rfl
    · obtain ⟨l', _, hX⟩ := hr.inv_tup h1
      cases hyy : yielded ops a.tmps j with
      | none => rfl
      | some c =>
        have := (hy c).1 hyy
        have : a.tmps.getD (slotOf ops j) undef = .bool c := this
        rw [hX] at this; cases this

/-- a part of what there is -/
theorem Inv.part (T : Stat P N D ops l call st val kd) (I : Inv lc N ops l st val kd ρ0 w0 a0 S c ρ a w) {mask n1 : Nat} {sides : List Side} (hn : (st c).c.n ≤ n1)
    (hs : ∀ y ∈ sides, mask.testBit y.j = true → SideOn l kd S y.j ∧ y.id = (st y.j).c.n ∧ y.c = cellAt st y.j ∧ (st (y.j + 1)).c.n ≤ n1) :
    (∀ id x, Live ⟨addSides mask sides (st c).c.h, n1⟩ id x → LiveF (HS l st kd S c) id x) ∧ (∀ id x, (addSides mask sides (st c).c.h).get id = some x → id < n1) ∧
    (∀ id x, Live ⟨addSides mask sides (st c).c.h, n1⟩ id x → CellVS n1 x) := by
  refine ⟨fun id x hx => ⟨?_, hx.2⟩, fun id x hx => ?_, fun id x hx => ?_⟩
  · rcases addSides_get hx.1 with ⟨y, hy, hm, h1, h2⟩ | ⟨h1, h2⟩
    · obtain ⟨a, b, c, d⟩ := hs y hy hm
      exact .inl ⟨y.j, a, b.symm.trans h1, c.symm.trans h2⟩
    · exact .inr h2
  · rcases addSides_get hx with ⟨y, hy, hm, h1, h2⟩ | ⟨h1, h2⟩
    · obtain ⟨a, b, c, d⟩ := hs y hy hm
      have := (T.tr.n_step a.1).2 a.2.2.1
      omega
    · have := (I.dom _ _ h2).1; omega
  · rcases addSides_get hx.1 with ⟨y, hy, hm, h1, h2⟩ | ⟨h1, h2⟩
    · obtain ⟨a, b, c, d⟩ := hs y hy hm
      have ht := hx.2
      rw [← h2, c] at ht ⊢
      exact (I.sv _ a.1 a.2.1 a.2.2.1 ht).mono d
    · exact ((I.dom _ _ h2).2 hx.2).mono hn

theorem view_noD (T : Stat P N D ops l call st val kd) {t : Nat} (ht : D.testBit t = true) : ∀ m, m ≤ l.length → viewS l val (st 0).e S m t = none
  | 0, _ => T.noD t ht
  | m + 1, hm => by
    simp only [viewS]
    rw [if_neg, view_noD T ht m (by omega)]
    rintro ⟨_, hd⟩
    obtain ⟨o, ho⟩ := T.op (i := m) (by omega)
    obtain ⟨mm, hx⟩ := T.reg.get m o ho
    rw [dd_some hx] at hd
    have := (compDI_d hd).2
    rw [ht] at this; cases this

theorem Inv.after (T : Stat P N D ops l call st val kd) (I : Inv lc N ops l st val kd ρ0 w0 a0 S c ρ a w) (R : Ready ops S i o) {rv : Value} {c' : Nat} {ρ' : Rho} {w' : World}
    (hgo : GoesF lc ρ (HS l st kd S c) w ρ' (HS l st kd (ins S i) c') w') (hv : VR ρ' (val i) rv) (hvs : VS (st (i + 1)).c.n (val i)) (hcur : Cur l kd (ins S i) c')
    (hids : ∀ id p, ρ' id = some p → ρ id = some p ∨ ((st i).c.n ≤ id ∧ id < (st (i + 1)).c.n)) (hdom : ∀ j x, (st c').c.h.get j = some x → j < (st c').c.n ∧ (x.t ≠ 4 → CellVS (st c').c.n x))
    (hsv : kd i = 1 → (cellAt st i).t ≠ 4 → CellVS (st (i + 1)).c.n (cellAt st i)) : Inv lc N ops l st val kd ρ0 w0 a0 (ins S i) c' ρ' (a.put o.dst rv) w' := by
  have hi := T.lt R.op
  refine ⟨?_, hcur, I.go.trans hgo, (put_size _ _ _).trans I.sz, ?_, fun t v hvw => ?_, fun k hk hS => ?_, fun id p hp => ?_, fun id p hp hid => ?_, hdom, fun f hf hS hk ht => ?_⟩
  · intro k ok hok hS e he hb
    rcases ins_true hS with rfl | hS
    · rw [R.op] at hok; cases hok
      exact ins_of (R.yes e he hb)
    · exact ins_of (I.cl k ok hok hS e he hb)
  · cases hd : o.dst <;> exact I.df
  · obtain ⟨m, hm⟩ := T.reg.get i o R.op
    by_cases hdd : dd l i = t + 1
    · -- it is the one that was written last
      have hdst : o.dst = some t := by
        rw [dd_some hm] at hdd
        exact (compDI_d hdd).1
      have hnm : t ∈ namesOf ops o := by unfold namesOf; rw [hdst]; exact List.mem_append_left _ (List.mem_append_left _ (by simp))
      rw [view_put hdd hi fun k hk hd hS => by
        by_cases hki : k = i
        · subst hki; rw [R.no] at hS; cases hS
        · exact (R.writers T I hnm hk hd hki).1 hS] at hvw
      cases hvw
      rw [hdst, put_getD a t t rv (by rw [I.sz]; exact T.reg.dst i o t R.op hdst), if_pos rfl]
      exact hv
    · rw [view_put_ne hdd] at hvw
      have hold := (I.env t v hvw).mono hgo.le
      cases hdst : o.dst with
      | none => exact hold
      | some d =>
        rw [put_getD a d t rv (by rw [I.sz]; exact T.reg.dst i o d R.op hdst)]
        by_cases htd : t = d
        · subst htd
          rw [dd_some hm] at hdd
          cases hb : D.testBit t with
          | true => rw [view_noD T hb _ (Nat.le_refl _)] at hvw; cases hvw
          | false => exact absurd (compDI_d' hdst hb) hdd
        · rw [if_neg htd]; exact hold
  · rcases ins_true hS with rfl | hS
    · exact hvs
    · exact I.vs k hk hS
  · rcases hids id p hp with h | ⟨h1, h2⟩
    · rcases I.ids id p h with h | ⟨k, a, b, c⟩
      · exact .inl h
      · exact .inr ⟨k, a, ins_of b, c⟩
    · exact .inr ⟨i, hi, ins_self _ _, h1, h2⟩
  · rcases hids id p hp with h | ⟨h1, h2⟩
    · exact I.fresh id p h hid
    · have := T.tr.n_mono (Nat.zero_le i) (by omega); omega
  · rcases ins_true hS with rfl | hS
    · exact hsv hk ht
    · exact I.sv f hf hS hk ht

theorem Cur.keep (T : Stat P N D ops l call st val kd) (h : Cur l kd S c) (hk : kd i ≠ 2) : Cur l kd (ins S i) c :=
  ⟨h.1, h.2.1.imp id fun ⟨e, a, b, c⟩ => ⟨e, a, b, ins_of c⟩, fun e he hke hS => by
    rcases ins_true hS with rfl | hS
    · exact absurd hke hk
    · exact h.2.2 e he hke hS⟩
theorem SideOn.old {f : Nat} (h : SideOn l kd (ins S i) f) (hf : f ≠ i) : SideOn l kd S f :=
  ⟨h.1, by have := h.2.1; rwa [ins_ne hf] at this, h.2.2.1, fun e he hS => h.2.2.2 e he (ins_of hS)⟩
end
end Go.Lm
