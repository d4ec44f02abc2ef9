/- Values and rows that are built. -/
import Derived.Test.YtnnadeeoejchpaaLmMem2
import Derived.Laws.MakeOwn
set_option linter.all false
namespace Go.Lm
section
variable {P : Program} {lc : Lc}
variable {ρ : Rho} {s : St} {w : World} {k : K} {q : V × St} {call : Caller} {e : Env}
variable {t u : TypeId} {X Y : Operand} {ev : Operand → Value} {o : Oper} {x y : Od}

theorem fold_set (off : Nat) : ∀ (l : List Value) (n : Nat) (cells : Array Value), ((l.zipIdx n).foldl (fun cs (c, j) => cs.setIfInBounds (off + j) c) cells).size = cells.size ∧
    ∀ j, ((l.zipIdx n).foldl (fun cs (c, j) => cs.setIfInBounds (off + j) c) cells)[j]? = if off + n ≤ j ∧ j < off + n + l.length ∧ j < cells.size then l[j - (off + n)]? else cells[j]?
  | [], n, cells => ⟨rfl, fun j => by rw [if_neg (by simp only [List.length_nil]; omega)]; rfl⟩
  | v :: l, n, cells => by
    obtain ⟨h1, h2⟩ := fold_set off l (n + 1) (cells.setIfInBounds (off + n) v)
    simp only [List.zipIdx_cons, List.foldl_cons]
    refine ⟨by rw [h1]; simp, fun j => ?_⟩
    rw [h2]
    simp only [Array.size_setIfInBounds, List.length_cons]
    by_cases e1 : j = off + n
    · subst e1
      rw [if_neg (by omega)]
      by_cases e2 : off + n < cells.size
      · rw [if_pos (by omega)]; simp [e2]
      · rw [if_neg (by omega)]; rw [Array.getElem?_eq_none (by rw [Array.size_setIfInBounds]; omega), Array.getElem?_eq_none (by omega)]
    · by_cases e2 : off + (n + 1) ≤ j ∧ j < off + (n + 1) + l.length ∧ j < cells.size
      · rw [if_pos e2, if_pos (by omega)]
        obtain ⟨d, rfl⟩ : ∃ d, j = off + (n + 1) + d := ⟨j - (off + (n + 1)), by omega⟩
        rw [show off + (n + 1) + d - (off + (n + 1)) = d by omega, show off + (n + 1) + d - (off + n) = d + 1 by omega]; rfl
      · rw [if_neg e2, if_neg (by omega), Array.getElem?_setIfInBounds_ne (by omega)]

theorem putAt_get (cells : List V) (o : Nat) (v : List V) (h : o + v.length ≤ cells.length) (j : Nat) : (putAt cells o v)[j]? = if o ≤ j ∧ j < o + v.length then v[j - o]? else cells[j]? := by
  unfold putAt
  by_cases e1 : j < o
  · rw [if_neg (by omega), List.append_assoc, List.getElem?_append_left (by rw [List.length_take]; omega), List.getElem?_take, if_pos e1]
  · by_cases e2 : j < o + v.length
    · rw [if_pos (by omega), List.append_assoc, List.getElem?_append_right (by rw [List.length_take]; omega), List.length_take, List.getElem?_append_left (by omega), Nat.min_eq_left (by omega)]
    · rw [if_neg (by omega), List.getElem?_append_right (by rw [List.length_append, List.length_take]; omega), List.length_append, List.length_take, List.getElem?_drop, Nat.min_eq_left (by omega)]
      congr 1; omega
theorem putAt_length (cells : List V) (o : Nat) (v : List V) (h : o + v.length ≤ cells.length) : (putAt cells o v).length = cells.length := by
  simp only [putAt, List.length_append, List.length_take, List.length_drop]; omega

theorem fill_ok {place : Nat → Option (Nat × Nat)} {g : Nat → Nat × Nat} {f : List V → Res} : ∀ (parts : List (Nat × Value)) (vs cells : List V) (cells' : Array Value), (∀ p ∈ parts, place p.1 = some (g p.1)) →
    VRL ρ vs (parts.map (·.2)) → VRL ρ cells cells'.toList → (∀ v ∈ cells'.toList, atom v) → fillP (parts.map fun p => g p.1) vs cells f = some q →
    ∃ l l', f l = some q ∧ Instr.fill place cells' parts = some l' ∧ VRL ρ l l'.toList ∧ (∀ v ∈ l'.toList, atom v) ∧ l.length = cells.length
  | [], vs, cells, cells', _, hv, hc, hat, h => by
    cases hv
    exact ⟨cells, cells', h, rfl, hc, hat, rfl⟩
  | (i, X) :: parts, vs, cells, cells', hp, hv, hc, hat, h => by
    cases hv with
    | @cons v _ vs' _ hv hvs =>
      have h : chk v.plain (chk (Nat.beq v.cells.length (g i).2) (chk (Nat.ble ((g i).1 + (g i).2) cells.length) (fillP (parts.map fun p => g p.1) vs' (putAt cells (g i).1 v.cells) f))) = some q := h
      obtain ⟨h1, h⟩ := chk_some.1 h
      obtain ⟨h2, h⟩ := chk_some.1 h
      obtain ⟨h3, h⟩ := chk_some.1 h
      have h2 := beq_t.1 h2; have h3 := ble_t.1 h3
      obtain ⟨l', hX, hl, hat'⟩ := hv.cells h1
      have hX : X.cells = ⟨l'⟩ := hX
      have hXs : X.cells.size = (g i).2 := by rw [hX]; show l'.length = _; rw [← hl.length]; exact h2
      obtain ⟨f1, f2⟩ := fold_set (g i).1 l' 0 cells'
      have hcl := hc.length
      have hcl : cells.length = cells'.size := hcl
      have hfold : X.cells.zipIdx.foldl (fun cs (c, j) => cs.setIfInBounds ((g i).1 + j) c) cells' = (l'.zipIdx 0).foldl (fun cs (c, j) => cs.setIfInBounds ((g i).1 + j) c) cells' := by
        rw [hX]; rw [← Array.foldl_toList]; simp
      have hget : ∀ j, (X.cells.zipIdx.foldl (fun cs (c, j) => cs.setIfInBounds ((g i).1 + j) c) cells')[j]? = if (g i).1 ≤ j ∧ j < (g i).1 + v.cells.length then l'[j - (g i).1]? else cells'[j]? := fun j => by
        rw [hfold, f2]; simp only [Nat.add_zero]
        by_cases e : (g i).1 ≤ j ∧ j < (g i).1 + v.cells.length
        · rw [if_pos e, if_pos (by rw [← hl.length]; omega)]
        · rw [if_neg e, if_neg (by rw [← hl.length]; omega)]
      have g1 : VRL ρ (putAt cells (g i).1 v.cells) (X.cells.zipIdx.foldl (fun cs (c, j) => cs.setIfInBounds ((g i).1 + j) c) cells').toList := by
        refine VRL.of_get ?_ fun j x hx => ?_
        · exact (putAt_length _ _ _ (by omega)).trans (hcl.trans (by rw [hfold]; exact f1.symm))
        · rw [putAt_get _ _ _ (by omega)] at hx
          rw [Array.getElem?_toList, hget]
          by_cases e : (g i).1 ≤ j ∧ j < (g i).1 + v.cells.length
          · rw [if_pos e] at hx ⊢; exact hl.get _ _ hx
          · rw [if_neg e] at hx ⊢; have := hc.get _ _ hx; rwa [Array.getElem?_toList] at this
      have g2 : ∀ x ∈ (X.cells.zipIdx.foldl (fun cs (c, j) => cs.setIfInBounds ((g i).1 + j) c) cells').toList, atom x := by
        intro x hx
        obtain ⟨j, hj⟩ := List.mem_iff_getElem?.1 hx
        rw [Array.getElem?_toList, hget] at hj
        by_cases e : (g i).1 ≤ j ∧ j < (g i).1 + v.cells.length
        · rw [if_pos e] at hj; exact hat' x (List.mem_of_getElem? hj)
        · rw [if_neg e, ← Array.getElem?_toList] at hj; exact hat x (List.mem_of_getElem? hj)
      obtain ⟨l, l2, r1, r2, r3, r4, r5⟩ := fill_ok parts vs' _ _ (fun p hp' => hp p (List.mem_cons_of_mem _ hp')) hvs g1 g2 h
      refine ⟨l, l2, r1, ?_, r3, r4, r5.trans (putAt_length _ _ _ (by omega))⟩
      simp only [Instr.fill, hp (i, X) List.mem_cons_self]
      rw [if_neg (by rw [hXs]; simp; omega)]; exact r2

theorem run_places : ∀ (l : List Field), l.all (fun f => (P.info? f.type).isSome) = true → (l.mapM (m := Sem) fun f => do pure (f.offset, ← sizeOf f.type)).run P w = .ok (l.map fun f => (f.offset, P.cellsOf f.type)) w
  | [], _ => rfl
  | f :: l, h => by
    simp only [List.all_cons, Bool.and_eq_true, Option.isSome_iff_exists] at h
    obtain ⟨⟨i, hi⟩, h⟩ := h
    simp only [List.mapM_cons, Sem.run_bind, run_sizeOf hi, Result.andThen_ok, Sem.run_pure, run_places l h, List.map_cons]

theorem opds_map {xs : List Od} {XS : List Operand} {f : (List V → Res)} (h : Opds ρ (evL xs e) (XS.map ev)) (hf : evL xs e f = some q) : ∃ vs, f vs = some q ∧ VRL ρ vs (XS.map ev) := h _ _ hf

theorem buildS_ok {parts : Array (Nat × Operand)} {fs : Array Field} {z : List V} {xs : List Od} (ho : o.op = .build t parts) (h1 : P.underlying t = some (.struct fs)) (hz : zeroOf P t = some z)
    (h2 : (fs.toList.all (fun f => (P.info? f.type).isSome) && parts.toList.all (fun p => decide (p.1 < fs.size))) = true)
    (hR : Rel lc ρ s w) (hx : Opds ρ (evL xs e) ((parts.toList.map (·.2)).map ev)) (h : oBuild z (parts.toList.map fun p => placeOf P fs p.1) xs call e s k = some q) : Does P lc ρ s w (execOp ev o) k q := by
  obtain ⟨i, zv, hi, hzv, hl, hat, _⟩ := zeroOf_ok (ρ := ρ) hz
  simp only [Bool.and_eq_true] at h2
  obtain ⟨vs, h, hvs⟩ := hx _ _ h
  have e1 : (parts.toList.map fun p => placeOf P fs p.1) = ((parts.map fun (i, x) => (i, ev x)).toList.map fun p => placeOf P fs p.1) := by simp
  rw [e1] at h
  have g1 : ∀ p ∈ (parts.map fun (i, x) => (i, ev x)).toList, (fs.map fun f => (f.offset, P.cellsOf f.type))[p.1]? = some (placeOf P fs p.1) := by
    intro p hp
    simp only [Array.toList_map, List.mem_map] at hp
    obtain ⟨p', hp', rfl⟩ := hp
    have := List.all_eq_true.1 h2.2 p' hp'
    have hlt : p'.1 < fs.size := by simpa using this
    simp [placeOf, hlt]
  obtain ⟨l, l', h, hf, hl, hat, hlf⟩ := fill_ok (place := ((fs.map fun f => (f.offset, P.cellsOf f.type))[·]?)) (g := placeOf P fs) _ vs z zv.cells g1 (by rw [Array.toList_map, List.map_map]; rw [List.map_map] at hvs; exact hvs) hl hat h
  rw [normK_eq] at h
  refine .same hR h ?_ (rv := .agg l') (by have := VR.agg hl hat; simpa using this)
  unfold execOp; rw [ho]; dsimp only
  refine vrun ?_
  have hpl : (fs.mapM (m := Sem) fun f => do pure (f.offset, ← sizeOf f.type)).run P w = .ok (fs.map fun f => (f.offset, P.cellsOf f.type)) w := by
    rw [Array.mapM_eq_mapM_toList, ← bind_pure_comp]
    simp only [Sem.run_bind, run_places _ h2.1, Result.andThen_ok, Sem.run_pure]
    rw [← List.map_toArray]
  simp only [Instr.build, Sem.run_bind, run_zeroValue hi hzv, run_underlying h1, Result.andThen_ok, hpl, hf]
  rfl

theorem buildA_ok {parts : Array (Nat × Operand)} {n : Nat} {el : TypeId} {z : List V} {xs : List Od} (ho : o.op = .build t parts) (h1 : P.underlying t = some (.array n el)) (hz : zeroOf P t = some z)
    (h2 : (P.info? el).isSome = true)
    (hR : Rel lc ρ s w) (hx : Opds ρ (evL xs e) ((parts.toList.map (·.2)).map ev)) (h : oBuild z (parts.toList.map fun p => (p.1 * P.cellsOf el, P.cellsOf el)) xs call e s k = some q) : Does P lc ρ s w (execOp ev o) k q := by
  obtain ⟨i, zv, hi, hzv, hl, hat, _⟩ := zeroOf_ok (ρ := ρ) hz
  obtain ⟨ie, hie⟩ := Option.isSome_iff_exists.1 h2
  obtain ⟨vs, h, hvs⟩ := hx _ _ h
  have e1 : (parts.toList.map fun p => (p.1 * P.cellsOf el, P.cellsOf el)) = ((parts.map fun (i, x) => (i, ev x)).toList.map fun p => (p.1 * P.cellsOf el, P.cellsOf el)) := by simp
  rw [e1] at h
  obtain ⟨l, l', h, hf, hl, hat, hlf⟩ := fill_ok (place := fun i => some (i * P.cellsOf el, P.cellsOf el)) (g := fun i => (i * P.cellsOf el, P.cellsOf el)) _ vs z zv.cells (fun p hp => rfl) (by rw [Array.toList_map, List.map_map]; rw [List.map_map] at hvs; exact hvs) hl hat h
  rw [normK_eq] at h
  refine .same hR h ?_ (rv := .agg l') (by have := VR.agg hl hat; simpa using this)
  unfold execOp; rw [ho]; dsimp only
  refine vrun ?_
  simp only [Instr.build, Sem.run_bind, run_zeroValue hi hzv, run_underlying h1, run_sizeOf hie, Result.andThen_ok, hf]
  rfl

/-! rows -/
theorem rep_length (z : List V) (n : Nat) : (rep z n).length = n * z.length := by
  induction n with
  | zero => rw [Nat.zero_mul]; rfl
  | succ n ih => show (z ++ rep z n).length = _; rw [List.length_append, ih, Nat.succ_mul]; omega
theorem rep_get (z : List V) : ∀ (n j : Nat), j < n * z.length → (rep z n)[j]? = z[j % z.length]?
  | 0, j, h => by simp at h
  | n + 1, j, h => by
    show (z ++ rep z n)[j]? = _
    by_cases e : j < z.length
    · rw [List.getElem?_append_left e, Nat.mod_eq_of_lt e]
    · rw [List.getElem?_append_right (by omega), rep_get z n (j - z.length) (by rw [Nat.succ_mul] at h; omega)]
      rw [← Nat.mod_eq_sub_mod (by omega)]
theorem rep_made {z : List V} {Z : Array Value} (hl : VRL ρ z Z.toList) (n : Nat) (hat : ∀ v ∈ Z.toList, atom v) :
    VRL ρ (rep z n) ((Array.range (n * z.length)).map fun i => Z[i % Z.size]!).toList ∧ ∀ v ∈ ((Array.range (n * z.length)).map fun i => Z[i % Z.size]!).toList, atom v := by
  have hlen : z.length = Z.size := hl.length
  have key : ∀ j, j < n * z.length → ∃ r, Z[j % Z.size]! = r ∧ Z[j % Z.size]? = some r := fun j hj => by
    have hz : 0 < Z.size := by rw [← hlen]; rcases Nat.eq_zero_or_pos z.length with h | h; rw [h] at hj; simp at hj; exact h
    have := Nat.mod_lt j hz
    exact ⟨_, rfl, by simp [this]⟩
  refine ⟨VRL.of_get (by rw [rep_length]; simp) fun j v hj => ?_, fun v hv => ?_⟩
  · have hlt : j < n * z.length := by
      rcases Nat.lt_or_ge j (n * z.length) with h | h
      · exact h
      · rw [List.getElem?_eq_none (by rw [rep_length]; exact h)] at hj; cases hj
    rw [rep_get z n j hlt] at hj
    obtain ⟨r, h1, h2⟩ := key j hlt
    obtain ⟨r', h3, h4⟩ := hl.get _ _ hj
    rw [hlen, Array.getElem?_toList, h2] at h3; cases h3
    refine ⟨_, ?_, h4⟩
    simp [hlt, h1]
  · obtain ⟨j, hj⟩ := List.mem_iff_getElem?.1 hv
    have hlt : j < n * z.length := by
      rcases Nat.lt_or_ge j (n * z.length) with h | h
      · exact h
      · rw [List.getElem?_eq_none (by simpa using h)] at hj; cases hj
    obtain ⟨r, h1, h2⟩ := key j hlt
    have hv : v = r := by
      have : ((Array.range (n * z.length)).map fun i => Z[i % Z.size]!).toList[j]? = some r := by simp [hlt, h1]
      rw [this] at hj; cases hj; rfl
    rw [hv]; exact hat r (by rw [← Array.getElem?_toList] at h2; exact List.mem_of_getElem? h2)

theorem run_newRow {t : TypeId} {cs : Array Value} : (newRow t cs).run P w = .ok ⟨w.heap.size, 0, none⟩ (w.alloc (.cells cs t)) := by
  simp only [newRow, Sem.run_bind]; rfl

theorem bslice_ok {parts : Array (Nat × Operand)} {n : Nat} {el : TypeId} {z : List V} {xs : List Od} (ho : o.op = .buildSlice t n parts) (h1 : P.underlying t = some (.slice el)) (hz : zeroOf P el = some z)
    (h2 : n * P.cellsOf el ≤ 2 ^ 20)
    (hR : Rel lc ρ s w) (hx : Opds ρ (evL xs e) ((parts.toList.map (·.2)).map ev)) (h : oBslice (P.cellsOf el) n z (parts.toList.map fun p => (p.1 * P.cellsOf el, P.cellsOf el)) xs call e s k = some q) : Does P lc ρ s w (execOp ev o) k q := by
  obtain ⟨i, zv, hi, hzv, hl, hat, hlen⟩ := zeroOf_ok (ρ := ρ) hz
  obtain ⟨vs, h, hvs⟩ := hx _ _ h
  have e1 : (parts.toList.map fun p => (p.1 * P.cellsOf el, P.cellsOf el)) = ((parts.map fun (i, x) => (i, ev x)).toList.map fun p => (p.1 * P.cellsOf el, P.cellsOf el)) := by simp
  rw [e1] at h
  obtain ⟨m1, m2⟩ := rep_made hl n hat
  rw [hlen] at m1 m2
  obtain ⟨l, l', h, hf, hl, hat, hlf⟩ := fill_ok (place := fun i => some (i * P.cellsOf el, P.cellsOf el)) (g := fun i => (i * P.cellsOf el, P.cellsOf el)) _ vs _ _ (fun p hp => rfl) (by rw [Array.toList_map, List.map_map]; rw [List.map_map] at hvs; exact hvs) m1 m2 h
  obtain ⟨s', p, h, hg, hp⟩ := newB_some (ty := el) hR hl hat [] h
  have hfl : l'.size = n * P.cellsOf el := by
    have h1 : l.length = l'.size := hl.length
    rw [← h1, hlf, rep_length, hlen]
  refine ⟨_, s', _, _, .slice (some ⟨w.heap.size, 0, none⟩) n n, h, .inl ?_, hg, ?_⟩
  · unfold execOp; rw [ho]; dsimp only
    refine vrun ?_
    have hz0 : n * P.cellsOf el = 0 → (Array.range (n * P.cellsOf el)).map (fun i => (#[] : Array Value)[i % (#[] : Array Value).size]!) = (Array.range (n * P.cellsOf el)).map fun i => zv.cells[i % zv.cells.size]! := by
      intro e; simp [e]
    by_cases e : n * P.cellsOf el = 0
    · simp only [Instr.buildSlice, Sem.run_bind, run_underlying h1, run_sizeOf hi, Result.andThen_ok, if_neg (show ¬ n * P.cellsOf el > 2 ^ 24 by omega), Sem.run_pure, if_pos e, hz0 e, hf, run_newRow, List.append_nil]
    · simp only [Instr.buildSlice, Sem.run_bind, run_underlying h1, run_sizeOf hi, Result.andThen_ok, if_neg (show ¬ n * P.cellsOf el > 2 ^ 24 by omega), Sem.run_pure, if_neg e, run_zeroValue hi hzv, hf, run_newRow, List.append_nil]
  · have := VR.sl (ρ := ρ.put s.n p) (a := s.n) (b := 0) (c := n) (d := n) (cap := n) (p := p) (Rho.put_self _ _ _) (Nat.le_refl _) (Nat.le_refl _) (by rw [hp]; intro _ _; simp [hfl])
    rw [hp] at this ⊢; exact this
end
end Go.Lm
