/- Loads, stores, new blocks. -/
import Derived.Test.YtnnadeeoejchpaaLmMem1
set_option linter.all false
namespace Go.Lm
section
variable {P : Program} {lc : Lc}
variable {ρ : Rho} {s : St} {w : World} {k : K} {q : V × St} {call : Caller} {e : Env}
variable {t u : TypeId} {X Y : Operand} {ev : Operand → Value} {o : Oper} {x y : Od}

theorem load1_ok (ho : o.op = .load t X) (h1 : isAggT P t = some false) (hR : Rel lc ρ s w) (hx : Opd ρ (x e) (ev X)) (h : oLoad1 x call e s k = some q) : Does P lc ρ s w (execOp ev o) k q := by
  obtain ⟨v, h, hv⟩ := hx _ _ h
  obtain ⟨h4, h⟩ := chk_some.1 h
  obtain ⟨p, hp, ha⟩ := hv.inv_ptr (beq_t.1 h4)
  rw [load1_eq] at h
  by_cases ht : (s.at v.a).t ≤ 1
  · rw [if_pos ht] at h
    obtain ⟨u, hu, h⟩ := bind_some.1 h
    obtain ⟨r, h5, h6, h7⟩ := cell_val hR hp ht hu
    refine .same hR h ?_ h6
    unfold execOp; rw [ho]; dsimp only; rw [ha]
    refine vrun ?_
    simp only [Instr.loadAt, Instr.sureAddr, Sem.run_bind, Sem.run_pure, Result.andThen_ok, loadVar, run_isAgg h1, Bool.false_eq_true, if_false]
    exact run_load_some h5
  · rw [if_neg ht] at h; cases h

theorem loadN_ok (ho : o.op = .load t X) (h1 : isAggT P t = some true) (hR : Rel lc ρ s w) (hx : Opd ρ (x e) (ev X)) (h : oLoadN (P.cellsOf t) x call e s k = some q) : Does P lc ρ s w (execOp ev o) k q := by
  obtain ⟨v, h, hv⟩ := hx _ _ h
  obtain ⟨h4, h⟩ := chk_some.1 h
  obtain ⟨p, hp, ha⟩ := hv.inv_ptr (beq_t.1 h4)
  obtain ⟨l, h, ht, hl, hg⟩ := loadL_some h
  obtain ⟨l', h5, h6, h7⟩ := cells_val hR hp ht hl hg
  obtain ⟨i, hi⟩ := isAgg_info h1
  refine .same hR h ?_ (.agg h5 h6)
  unfold execOp; rw [ho]; dsimp only; rw [ha]
  refine vrun ?_
  simp only [Instr.loadAt, Instr.sureAddr, Sem.run_bind, Sem.run_pure, Result.andThen_ok, loadVar, run_isAgg h1, if_true, run_sizeOf hi]
  rw [run_loadCells (l := l') (by rw [← h5.length]; exact hl) h7]; rfl

/-- the cells of a value -/
theorem VR.cells {x : V} {X : Value} (h : VR ρ x X) (hp : x.plain = true) : ∃ l', X.cells = ⟨l'⟩ ∧ VRL ρ x.cells l' ∧ ∀ v ∈ l', atom v := by
  have one : ∀ (x : V) (X : Value), x.t ≠ 13 → atom X → X.cells = #[X] → VR ρ x X → ∃ l', X.cells = ⟨l'⟩ ∧ VRL ρ x.cells l' ∧ ∀ v ∈ l', atom v := fun x X h13 hat hc hv => by
    refine ⟨[X], hc, ?_, by simpa using hat⟩
    unfold V.cells; rw [beq_f.2 h13]; exact .one hv
  by_cases h13 : x.t = 13
  · obtain ⟨l', h1, h2, rfl⟩ := h.inv_agg h13
    refine ⟨l', rfl, ?_, h2⟩
    unfold V.cells; rw [beq_t.2 h13]; exact h1
  · cases h
    case agg => exact absurd rfl h13
    case tup => cases hp
    all_goals exact one _ _ h13 trivial rfl (by constructor <;> assumption)

theorem CellR.own0 {c : Cell} {p : Pl} {w : World} (ht : c.t = 0) (h : p.own = true ∧ p.esz = c.esz ∧ (c.m = 0 → c.fl.length = c.size) ∧ ∃ cs ty, w.heap[p.blk]? = some (.cells cs ty (0, 0)) ∧ cs.size = p.room ∧ p.base + c.size ≤ p.room ∧
    ∀ j v, c.val j = some v → ∃ r, cs[p.base + j]? = some r ∧ VR ρ v r ∧ atom r) : CellR lc ρ c p w :=
  ⟨fun _ => h, fun e => by omega, fun e => by omega, fun e => by omega, by omega⟩

/-- a store to an own block -/
theorem store_goes (hR : Rel lc ρ s w) {a o : Nat} {p : Pl} {vs : List V} {vs' : List Value} {f : St → Res} (hp : ρ a = some p) (hv : VRL ρ vs vs') (hat : ∀ v ∈ vs', atom v) (h : storeL s a o vs f = some q) :
    ∃ s' w', f s' = some q ∧ (storeCells ⟨p.blk, p.base + o, none⟩ vs').run P w = .ok () w' ∧ Goes lc ρ s w ρ s' w' := by
  have ht0 : (s.at a).t = 0 := by
    unfold storeL at h
    generalize s.at a = c at h
    cases c; exact beq_t.1 (chk_some.1 h).1
  have hl : Live s a (s.at a) := at_live rfl (by omega)
  obtain ⟨p', hp', h0, _⟩ := hR.cell a _ hl
  rw [hp] at hp'; cases hp'
  obtain ⟨hown, hesz, hwf, cs, ty, hcs, hroom, hfit, hval⟩ := h0 ht0
  obtain ⟨c', h, _, h2, h3, h4, h5, h6, h7⟩ := storeL_some h hwf
  obtain ⟨w', hr, hst⟩ := run_storeCells (P := P) vs' (p.base + o) 0 w cs ty hcs hat (by rw [← hv.length]; omega)
  obtain ⟨cs', e1, e2, e3⟩ := hst.here
  refine ⟨_, w', h, hr, hR.setOwn hl hp hown (by omega) hst.size hst.others hst.os hst.tape hst.output (.own0 h2 ⟨hown, by rw [h4]; exact hesz, h5, cs', ty, e1, by rw [e2]; exact hroom, by omega, fun j v hj => ?_⟩)⟩
  rw [h7] at hj
  rw [e3]
  by_cases e : o ≤ j ∧ j < o + vs.length
  · rw [if_pos e] at hj
    obtain ⟨r, hr1, hr2⟩ := hv.get _ _ hj
    refine ⟨r, ?_, hr2, hat r (List.mem_of_getElem? hr1)⟩
    rw [if_pos (by rw [← hv.length]; omega), ← hr1]; congr 1; omega
  · rw [if_neg e] at hj
    rw [if_neg (by rw [← hv.length]; omega)]
    exact hval j v hj

theorem store_ok (ho : o.op = .store t X Y) (hi : ∃ i, P.info? t = some i) (hR : Rel lc ρ s w) (hx : Opd ρ (x e) (ev X)) (hy : Opd ρ (y e) (ev Y)) (h : oStore (P.cellsOf t) x y call e s k = some q) : Does P lc ρ s w (execOp ev o) k q := by
  obtain ⟨a, h, ha⟩ := hx _ _ h
  obtain ⟨v, h, hv⟩ := hy _ _ h
  obtain ⟨h1, h⟩ := chk_some.1 h
  obtain ⟨h2, h⟩ := chk_some.1 h
  obtain ⟨h3, h⟩ := chk_some.1 h
  obtain ⟨p, hp, hA⟩ := ha.inv_ptr (beq_t.1 h1)
  obtain ⟨l', hc, hl, hat⟩ := hv.cells h2
  obtain ⟨i, hi⟩ := hi
  obtain ⟨s', w', h, hr, hg⟩ := store_goes (P := P) hR hp hl hat h
  refine ⟨undefV, s', ρ, w', undef, h, .inr ⟨rfl, ?_⟩, hg, .tup .nil⟩
  unfold execOp; rw [ho]; dsimp only; rw [hA]
  refine urun ?_
  have : (({ toList := l' } : Array Value)).size = P.cellsOf t := by show l'.length = _; rw [← hl.length]; exact beq_t.1 h3
  simp only [Instr.storeAt, Instr.sureAddr, Sem.run_bind, Sem.run_pure, Result.andThen_ok, storeVar, run_sizeOf hi, hc, this, ne_eq, not_true, if_false]
  exact hr

/-- a new block -/
theorem newC_some {l : List V} {esz : Nat} {f : Cell → Res} (h : newC l esz f = some q) : ∃ c, f c = some q ∧ c.t = 0 ∧ c.size = l.length ∧ c.esz = esz ∧ (c.m = 0 → c.fl.length = c.size) ∧ ∀ j, c.val j = l[j]? := by
  unfold newC at h
  rw [normK_eq, fN_eq] at h
  rcases bs_some.1 h with ⟨_, h⟩ | ⟨_, h⟩
  · exact ⟨_, h, rfl, rfl, rfl, fun _ => rfl, fun j => rfl⟩
  · rw [setLK_eq] at h
    refine ⟨_, h, rfl, rfl, rfl, (fun hm => by cases hm), fun j => ?_⟩
    simp only [Cell.val, if_neg (show ¬ (1 : Nat) = 0 by omega)]
    rw [T.get_setL]
    by_cases e : j < l.length
    · rw [if_pos e, if_pos (by omega)]; simp
    · rw [if_neg e, List.getElem?_eq_none (by omega)]

theorem newB_some (hR : Rel lc ρ s w) {l : List V} {l' : List Value} {esz : Nat} {ty : TypeId} {f : Nat → St → Res} (hl : VRL ρ l l') (hat : ∀ v ∈ l', atom v) (rest : List Value) (h : newB s l esz f = some q) :
    ∃ s' p, f s.n s' = some q ∧ Goes lc ρ s w (ρ.put s.n p) s' (w.alloc (.cells ⟨l' ++ rest⟩ ty)) ∧ p = ⟨w.heap.size, 0, true, esz, l'.length + rest.length⟩ := by
  obtain ⟨c, h, h1, h2, h3, h4, h5⟩ := newC_some h
  unfold newK at h
  rw [setK_eq, fN_eq] at h
  refine ⟨_, _, h, hR.alloc rfl rfl (.own0 h1 ⟨rfl, h3.symm, h4, ⟨l' ++ rest⟩, ty, ?_, ?_, ?_, fun j v hj => ?_⟩), rfl⟩
  · rw [heap_alloc]; simp
  · simp
  · simp only [Nat.zero_add, h2, hl.length]; omega
  · rw [h5] at hj
    obtain ⟨r, hr, hv⟩ := hl.get _ _ hj
    refine ⟨r, ?_, hv.mono (Rho.le_put _ ?_), hat r (List.mem_of_getElem? hr)⟩
    · have hlt : j < l'.length := by
        rcases Nat.lt_or_ge j l'.length with h | h
        · exact h
        · rw [List.getElem?_eq_none h] at hr; cases hr
      show ((l' ++ rest).toArray)[0 + j]? = _
      rw [Nat.zero_add, List.getElem?_toArray, List.getElem?_append_left hlt]; exact hr
    · cases e : ρ s.n with
      | none => rfl
      | some q => exact absurd (hR.scope _ _ e) (by omega)

theorem run_newVar {t : TypeId} {v : Value} : (newVar t v).run P w = .ok ⟨w.heap.size, 0, none⟩ (w.alloc (.cells v.cells t)) := by
  simp only [newVar, newRow, Sem.run_bind]; rfl

theorem box_ok (ho : o.op = .box t X) (hR : Rel lc ρ s w) (hx : Opd ρ (x e) (ev X)) (h : oBox x call e s k = some q) : Does P lc ρ s w (execOp ev o) k q := by
  obtain ⟨v, h, hv⟩ := hx _ _ h
  obtain ⟨h2, h⟩ := chk_some.1 h
  obtain ⟨l', hc, hl, hat⟩ := hv.cells h2
  obtain ⟨s', p, h, hg, hp⟩ := newB_some (ty := t) hR hl hat [] h
  refine ⟨_, s', _, _, .pointer (some ⟨w.heap.size, 0, none⟩), h, .inl ?_, hg, ?_⟩
  · unfold execOp; rw [ho]; dsimp only
    refine vrun ?_
    simp only [Instr.box, Sem.run_bind, run_newVar, Result.andThen_ok, hc, List.append_nil]; rfl
  · have := VR.ptr (ρ := ρ.put s.n p) (a := s.n) (b := 0) (p := p) (Rho.put_self _ _ _)
    rw [hp] at this ⊢; exact this

theorem VR.atom {v : V} {r : Value} (h : VR ρ v r) (h1 : v.t ≠ 13) (h2 : v.t ≠ 14) : Lm.atom r := by
  cases h
  case agg => exact absurd rfl h1
  case tup => exact absurd rfl h2
  all_goals trivial
theorem VRL.atoms : ∀ {l : List V} {l' : List Value}, VRL ρ l l' → flatL l = true → ∀ v ∈ l', Lm.atom v
  | _, _, .nil, _ => by simp
  | _, _, .cons a b, h => by
    simp only [flatL, List.all_cons, Bool.and_eq_true, bne_iff_ne] at h
    intro v hv
    rcases List.mem_cons.1 hv with rfl | hv
    · exact a.atom h.1.1 h.1.2
    · exact VRL.atoms b (by simp only [flatL, List.all_eq_true, Bool.and_eq_true, bne_iff_ne]; simpa using h.2) v hv
mutual
theorem compV_ok : ∀ (r : Value) (v : V), compV r = some v → VR ρ v r
  | .bool true, v, h => by simp [compV] at h; subst h; exact .t
  | .bool false, v, h => by simp [compV] at h; subst h; exact .f
  | .int kd (.ofNat n), v, h => by simp only [compV, Option.some.injEq] at h; subst h; exact .int kd n
  | .int kd (.negSucc n), v, h => by simp only [compV, Option.some.injEq] at h; subst h; exact .neg kd n
  | .string s, v, h => by simp only [compV, Option.some.injEq] at h; subst h; exact .str s
  | .pointer none, v, h => by simp only [compV, Option.some.injEq] at h; subst h; exact .nilp
  | .slice none 0 0, v, h => by simp only [compV, Option.some.injEq] at h; subst h; exact .nils
  | .map none, v, h => by simp only [compV, Option.some.injEq] at h; subst h; exact .nilm
  | .nilFunc, v, h => by simp only [compV, Option.some.injEq] at h; subst h; exact .nf
  | .agg ⟨l⟩, v, h => by
    simp only [compV, compVA] at h
    cases e : compVL l with
    | none => rw [e] at h; cases h
    | some l' =>
      rw [e] at h; simp only [Option.bind_some] at h
      split at h
      · next hf => cases h; exact .agg (compVL_ok l l' e) ((compVL_ok l l' e).atoms hf)
      · cases h
  | .tuple ⟨l⟩, v, h => by
    simp only [compV, compVA] at h
    cases e : compVL l with
    | none => rw [e] at h; cases h
    | some l' => rw [e] at h; cases h; exact .tup (compVL_ok l l' e)
  | .pointer (some _), v, h | .slice (some _) _ _, v, h | .slice none (_ + 1) _, v, h | .slice none 0 (_ + 1), v, h | .map (some _), v, h => by simp [compV] at h
  | .float .., v, h | .complex .., v, h | .chan .., v, h | .func .., v, h | .iface .., v, h | .nilIface, v, h => by simp [compV] at h
theorem compVL_ok : ∀ (r : List Value) (v : List V), compVL r = some v → VRL ρ v r
  | [], v, h => by simp only [compVL, Option.some.injEq] at h; subst h; exact .nil
  | r :: l, v, h => by
    simp only [compVL] at h
    cases e1 : compV r with
    | none => rw [e1] at h; cases h
    | some x => cases e2 : compVL l with
      | none => rw [e1, e2] at h; cases h
      | some y => rw [e1, e2] at h; cases h; exact .cons (compV_ok r x e1) (compVL_ok l y e2)
end

theorem zeroOf_ok {t : TypeId} {l : List V} (h : zeroOf P t = some l) : ∃ i z, P.info? t = some i ∧ i.zero = some z ∧ VRL ρ l z.cells.toList ∧ (∀ v ∈ z.cells.toList, Lm.atom v) ∧ l.length = P.cellsOf t := by
  unfold zeroOf at h
  cases e : P.info? t with
  | none => rw [e] at h; cases h
  | some i =>
    rw [e] at h; simp only [Option.bind_some] at h
    cases e2 : i.zero with
    | none => rw [e2] at h; cases h
    | some z =>
      rw [e2] at h; simp only [Option.bind_some] at h
      cases e3 : compVL z.cells.toList with
      | none => rw [e3] at h; cases h
      | some l' =>
        rw [e3] at h; simp only [Option.bind_some] at h
        split at h
        · next hf =>
          cases h; simp only [Bool.and_eq_true, beq_iff_eq] at hf
          exact ⟨i, z, rfl, e2, compVL_ok _ _ e3, (compVL_ok (ρ := ρ) _ _ e3).atoms hf.1, hf.2⟩
        · cases h

theorem alloc_ok {l : List V} (ho : o.op = .alloc t) (hz : zeroOf P t = some l) (hR : Rel lc ρ s w) (h : oAlloc l call e s k = some q) : Does P lc ρ s w (execOp ev o) k q := by
  obtain ⟨i, z, hi, hz, hl, hat, _⟩ := zeroOf_ok (ρ := ρ) hz
  obtain ⟨s', p, h, hg, hp⟩ := newB_some (ty := t) hR hl hat [] h
  refine ⟨_, s', _, _, .pointer (some ⟨w.heap.size, 0, none⟩), h, .inl ?_, hg, ?_⟩
  · unfold execOp; rw [ho]; dsimp only
    refine vrun ?_
    simp only [Instr.alloc, Sem.run_bind, run_zeroValue hi hz, run_newVar, Result.andThen_ok, List.append_nil]; rfl
  · have := VR.ptr (ρ := ρ.put s.n p) (a := s.n) (b := 0) (p := p) (Rho.put_self _ _ _)
    rw [hp] at this ⊢; exact this
end
end Go.Lm
