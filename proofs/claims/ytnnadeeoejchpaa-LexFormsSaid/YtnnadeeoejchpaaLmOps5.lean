/- Slices of slices; nil. -/
import Derived.Test.YtnnadeeoejchpaaLmOps4
set_option linter.all false
namespace Go.Lm
section
variable {P : Program} {lc : Lc}
variable {ρ : Rho} {s : St} {w : World} {k : K} {q : V × St} {call : Caller} {e : Env}
variable {t u : TypeId} {X Y : Operand} {ev : Operand → Value} {o : Oper} {x y : Od} {c : Call}

theorem at_live {i : Nat} {c : Cell} (h : c = s.at i) (ht : c.t ≠ 4) : Live s i c := by
  unfold St.at gc at h
  cases e : s.h.get i with
  | none => rw [e] at h; subst h; exact absurd rfl ht
  | some c' => rw [e] at h; have : c = c' := h; subst this; exact ⟨e, ht⟩
/-- the block of an owned place, if its elements are of so many cells -/
theorem esz_of (hR : Rel lc ρ s w) {a esz : Nat} {p : Pl} (hp : ρ a = some p) (ho : p.own = true) (h : eszOk (s.at a) esz = true) : p.esz = esz := by
  unfold eszOk at h; rw [bs_ite] at h
  by_cases h1 : (s.at a).t ≤ 1
  · rw [ble_t.2 h1] at h
    have hl : Live s a (s.at a) := at_live rfl (by omega)
    obtain ⟨p', hp', h0, h1', _⟩ := hR.cell a _ hl
    rw [hp] at hp'; cases hp'
    have : (s.at a).t = 0 ∨ (s.at a).t = 1 := by omega
    rcases this with h2 | h2
    · obtain ⟨_, he, _⟩ := h0 h2
      rw [he]; exact beq_t.1 h
    · have := (h1' h2).1; rw [ho] at this; cases this
  · rw [ble_f.2 (by omega)] at h; cases h

theorem slAt_some {tg a b l esz len cap : Nat} (h : slAt tg a b l esz len cap s k = some q) : k ⟨tg, a, b + l * esz, len, cap, [], []⟩ s = some q := by
  unfold slAt at h; rw [fN_eq, fN_eq, fN_eq] at h; exact h

theorem sliceL_ok {el : TypeId} {lo hi : Option Od} {LO HI : Option Operand} (ho : o.op = .slice t X LO HI none) (h1 : P.underlying t = some (.slice el)) (hi' : ∃ i, P.info? el = some i)
    (hR : Rel lc ρ s w) (hx : Opd ρ (x e) (ev X)) (hlo : OpdO ρ ev e lo LO) (hhi : OpdO ρ ev e hi HI) (h : oSliceL (P.cellsOf el) x lo hi call e s k = some q) : Does P lc ρ s w (execOp ev o) k q := by
  obtain ⟨i, hi'⟩ := hi'
  obtain ⟨v, h, hv⟩ := hx _ _ h
  obtain ⟨h3, h⟩ := chk_some.1 h
  obtain ⟨n, h, hn⟩ := bnd_some hhi h
  obtain ⟨m, h, hm⟩ := bnd_some hlo h
  obtain ⟨h4, h⟩ := chk_some.1 h
  obtain ⟨h5, h⟩ := chk_some.1 h
  have h4' := ble_t.1 h4; have h5' := ble_t.1 h5
  have run : ∀ (A : Option Addr) (cap : Nat), ev X = .slice A v.c cap → v.d ≤ cap → (execOp ev o).run P w = .ok (.value (.slice (if cap = m then A else A.map (·.add (m * P.cellsOf el))) (n - m) (cap - m))) w := fun A cap hA hc => by
    unfold execOp; rw [ho]; dsimp only; rw [hA]
    refine vrun ?_
    simp only [Instr.sliceAt, Sem.run_bind, run_underlying h1, Result.andThen_ok, Instr.slice, Option.map_none, bounds_run hn hm (Nat.le_trans h4' hc) h5', run_sizeOf hi']
    rfl
  rcases bs_some.1 h with ⟨h6, h⟩ | ⟨_, h⟩
  · obtain ⟨hA, hc, hd⟩ := hv.inv_nils (beq_t.1 h6)
    have e1 : n = 0 := by omega
    have e2 : m = 0 := by omega
    refine .same (rv := .slice none 0 0) hR h ?_ (by rw [hA] at hv; exact hv)
    rw [run none 0 (by rw [hA, hc]) (by omega), e1, e2]; rfl
  · obtain ⟨h6, h⟩ := chk_some.1 h
    obtain ⟨h7, h⟩ := chk_some.1 h
    obtain ⟨p, A, cap, hp, hA, hc, hd, hcase⟩ := hv.inv_sl (beq_t.1 h6)
    have h := slAt_some h
    refine .same hR h (run _ _ hA hd) ?_
    by_cases e1 : cap = m
    · rw [if_pos e1]
      have e2 : n - m = 0 := by omega
      have e3 : v.d - m = 0 := by omega
      have e4 : cap - m = 0 := by omega
      show VR ρ (vSl v.a _ (n - m) (v.d - m)) (.slice _ (n - m) (cap - m))
      rw [e2, e3, e4]; exact .sz _ hp
    · rw [if_neg e1]
      rcases hcase with ⟨rfl, hroom⟩ | ⟨h8, h9⟩
      · show VR ρ (vSl v.a (v.b + m * P.cellsOf el) (n - m) (v.d - m)) (.slice (some (Addr.add _ _)) (n - m) (cap - m))
        rw [addr_add, Nat.add_assoc]
        refine .sl hp (by omega) (by omega) fun ho hz => ?_
        have hr := hroom ho hz
        by_cases e5 : m = 0
        · subst e5; simpa using hr
        · have h7' : (bs (Nat.beq m 0) true (eszOk (s.at v.a) (P.cellsOf el))) = true := h7
          rw [beq_f.2 e5, bs_false] at h7'
          have e6 := esz_of hR hp ho h7'
          rw [← e6]
          have e7 : m * p.esz + (cap - m) * p.esz = cap * p.esz := by rw [← Nat.add_mul]; congr 1; omega
          omega
      · omega
theorem slice3_ok {el : TypeId} {lo hi : Option Od} {LO HI : Option Operand} {M : Operand} {mx : Od} (ho : o.op = .slice t X LO HI (some M)) (h1 : P.underlying t = some (.slice el)) (hi' : ∃ i, P.info? el = some i) (hne : HI ≠ none)
    (hR : Rel lc ρ s w) (hx : Opd ρ (x e) (ev X)) (hmx : Opd ρ (mx e) (ev M)) (hlo : OpdO ρ ev e lo LO) (hhi : OpdO ρ ev e hi HI) (h : oSlice3 (P.cellsOf el) x lo hi mx call e s k = some q) : Does P lc ρ s w (execOp ev o) k q := by
  obtain ⟨i, hi'⟩ := hi'
  obtain ⟨v, h, hv⟩ := hx _ _ h
  obtain ⟨z, h, hz⟩ := hmx _ _ h
  obtain ⟨h3, h⟩ := chk_some.1 h
  obtain ⟨n, h, hn⟩ := bnd_some hhi h
  obtain ⟨m, h, hm⟩ := bnd_some hlo h
  obtain ⟨h3', h⟩ := chk_some.1 h
  obtain ⟨h3'', h⟩ := chk_some.1 h
  obtain ⟨h4, h⟩ := chk_some.1 h
  obtain ⟨h5, h⟩ := chk_some.1 h
  have h4' := ble_t.1 h4; have h5' := ble_t.1 h5
  obtain ⟨p, A, cap, hp, hA, hc, hd, hcase⟩ := hv.inv_sl (beq_t.1 h3)
  have hM := i64_of hz (beq_t.1 h3')
  rw [beq_t.1 h3''] at hM
  have h := slAt_some h
  refine .same (rv := .slice (some (if n = m then A else A.add (m * P.cellsOf el))) (n - m) (n - m)) hR h ?_ ?_
  · unfold execOp; rw [ho]; dsimp only; rw [hA]
    refine vrun ?_
    simp only [Instr.sliceAt, Sem.run_bind, run_underlying h1, Result.andThen_ok, Instr.slice, Option.map_some, hM, bounds3_run hn hm (by cases HI <;> simp_all) (Nat.le_trans h4' hd) h5', run_sizeOf hi']
    by_cases e1 : n = m
    · rw [if_pos e1, if_pos e1]; rfl
    · rw [if_neg e1, if_neg e1]; rfl
  · show VR ρ (vSx v.a (v.b + m * P.cellsOf el) (n - m)) _
    by_cases e1 : n = m
    · subst e1; rw [Nat.sub_self]; exact .sxz _ hp
    · rw [if_neg e1]
      rcases hcase with ⟨rfl, _⟩ | ⟨h8, h9⟩
      · rw [addr_add, Nat.add_assoc]; exact .sx hp
      · omega
theorem sliceA_ok {el : TypeId} {len : Nat} {lo hi : Option Od} {LO HI : Option Operand} (ho : o.op = .slice t X LO HI none) (h1 : P.underlying t = some (.array len el)) (hi' : ∃ i, P.info? el = some i)
    (hR : Rel lc ρ s w) (hx : Opd ρ (x e) (ev X)) (hlo : OpdO ρ ev e lo LO) (hhi : OpdO ρ ev e hi HI) (h : oSliceA (P.cellsOf el) len x lo hi call e s k = some q) : Does P lc ρ s w (execOp ev o) k q := by
  obtain ⟨i, hi'⟩ := hi'
  obtain ⟨v, h, hv⟩ := hx _ _ h
  obtain ⟨h3, h⟩ := chk_some.1 h
  obtain ⟨n, h, hn⟩ := bnd_some hhi h
  obtain ⟨m, h, hm⟩ := bnd_some hlo h
  obtain ⟨h4, h⟩ := chk_some.1 h
  obtain ⟨h5, h⟩ := chk_some.1 h
  obtain ⟨h6, h⟩ := chk_some.1 h
  have h4' := ble_t.1 h4; have h5' := ble_t.1 h5
  obtain ⟨p, hp, hA⟩ := hv.inv_ptr (beq_t.1 h3)
  have h := slAt_some h
  refine .same (rv := .slice (some (if len = m then ⟨p.blk, p.base + v.b, none⟩ else Addr.add ⟨p.blk, p.base + v.b, none⟩ (m * P.cellsOf el))) (n - m) (len - m)) hR h ?_ ?_
  · unfold execOp; rw [ho]; dsimp only; rw [hA]
    refine vrun ?_
    simp only [Instr.sliceAt, Sem.run_bind, run_underlying h1, Result.andThen_ok, Option.map_none, Instr.sureAddr, Sem.run_pure, bounds_run hn hm h4' h5', run_sizeOf hi']
  · show VR ρ (vSl v.a (v.b + m * P.cellsOf el) (n - m) (len - m)) _
    by_cases e1 : len = m
    · rw [if_pos e1]
      have e2 : n - m = 0 := by omega
      have e3 : len - m = 0 := by omega
      rw [e2, e3]; exact .sz _ hp
    · rw [if_neg e1, addr_add, Nat.add_assoc]
      exact .sl hp (by omega) (Nat.le_refl _) fun ho hz => absurd (esz_of hR hp ho h6) hz

/-! nil -/
theorem nilP_ok {f : Bool → Bool} {op : BinOp} {el : TypeId} (ho : o.op = .binOp op t X Y u) (h1 : P.underlying t = some (.pointer el)) (hY : ev Y = .pointer none)
    (hop : (op = .eql ∧ f = fun b => b) ∨ (op = .neq ∧ f = nB)) (hR : Rel lc ρ s w) (hx : Opd ρ (x e) (ev X)) (h : bN f 5 4 x call e s k = some q) : Does P lc ρ s w (execOp ev o) k q := by
  obtain ⟨v, h, hv⟩ := hx _ _ h
  have fin : ∀ (A : Option Addr), ev X = .pointer A → (execOp ev o).run P w = .ok (.value (.bool (f A.isNone))) w := fun A hA => by
    refine bin_run ho (by rw [hA]; simp) (by rw [hA]; simp) ?_
    rw [hA, hY]
    have eq : (Op.equal t (.pointer A) (.pointer none)).run P w = .ok A.isNone w := by
      unfold Op.equal Op.maxDepth
      show (Op.equalIn (9999 + 1) t _ _).run P w = _
      rw [Op.equalIn]
      simp only [Sem.run_bind, run_underlying h1, Result.andThen_ok]
      cases A <;> rfl
    rcases hop with ⟨rfl, rfl⟩ | ⟨rfl, rfl⟩
    · simp only [binOp, Sem.run_bind, eq, Result.andThen_ok]; rfl
    · simp only [binOp, Sem.run_bind, eq, Result.andThen_ok]; rw [nB_not]; rfl
  rcases bs_some.1 h with ⟨h3, h⟩ | ⟨_, h⟩
  · obtain ⟨r, hk, hr⟩ := vB_some (ρ := ρ) h
    exact .same hR hk (fin none (hv.inv_nilp (beq_t.1 h3))) hr
  · obtain ⟨h3, h⟩ := chk_some.1 h
    obtain ⟨r, hk, hr⟩ := vB_some (ρ := ρ) h
    have h4 : v.t = 4 := by
      cases h5 : Nat.beq v.t (Nat.pred 5) with
      | true => exact beq_t.1 h5
      | false => rw [h5] at h3; exact beq_t.1 h3
    obtain ⟨p, hp, hA⟩ := hv.inv_ptr h4
    exact .same hR hk (fin _ hA) hr
theorem nilS_ok {f : Bool → Bool} {op : BinOp} {el : TypeId} (ho : o.op = .binOp op t X Y u) (h1 : P.underlying t = some (.slice el)) (hY : ev Y = .slice none 0 0)
    (hop : (op = .eql ∧ f = fun b => b) ∨ (op = .neq ∧ f = nB)) (hR : Rel lc ρ s w) (hx : Opd ρ (x e) (ev X)) (h : bN f 7 8 x call e s k = some q) : Does P lc ρ s w (execOp ev o) k q := by
  obtain ⟨v, h, hv⟩ := hx _ _ h
  have fin : ∀ (A : Option Addr) (n cap : Nat), ev X = .slice A n cap → (execOp ev o).run P w = .ok (.value (.bool (f A.isNone))) w := fun A n cap hA => by
    refine bin_run ho (by rw [hA]; simp) (by rw [hA]; simp) ?_
    rw [hA, hY]
    have eq : (Op.equal t (.slice A n cap) (.slice none 0 0)).run P w = .ok A.isNone w := by
      unfold Op.equal Op.maxDepth
      show (Op.equalIn (9999 + 1) t _ _).run P w = _
      rw [Op.equalIn]
      simp only [Sem.run_bind, run_underlying h1, Result.andThen_ok]
      cases A <;> rfl
    rcases hop with ⟨rfl, rfl⟩ | ⟨rfl, rfl⟩
    · simp only [binOp, Sem.run_bind, eq, Result.andThen_ok]; rfl
    · simp only [binOp, Sem.run_bind, eq, Result.andThen_ok]; rw [nB_not]; rfl
  rcases bs_some.1 h with ⟨h3, h⟩ | ⟨_, h⟩
  · obtain ⟨r, hk, hr⟩ := vB_some (ρ := ρ) h
    exact .same hR hk (fin none 0 0 (hv.inv_nils (beq_t.1 h3)).1) hr
  · obtain ⟨h3, h⟩ := chk_some.1 h
    obtain ⟨r, hk, hr⟩ := vB_some (ρ := ρ) h
    have h4 : v.t = 6 ∨ v.t = 8 := by
      cases h5 : Nat.beq v.t (Nat.pred 7) with
      | true => exact .inl (beq_t.1 h5)
      | false => rw [h5] at h3; exact .inr (beq_t.1 h3)
    rcases h4 with h4 | h4
    · obtain ⟨p, A, cap, hp, hA, _⟩ := hv.inv_sl h4
      exact .same hR hk (fin _ _ _ hA) hr
    · obtain ⟨p, A, hp, hA, _⟩ := hv.inv_sx h4
      exact .same hR hk (fin _ _ _ hA) hr
end
end Go.Lm
