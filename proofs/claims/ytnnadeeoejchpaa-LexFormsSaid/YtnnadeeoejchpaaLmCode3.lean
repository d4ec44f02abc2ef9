/- Code; a function's end. -/
import Derived.Test.YtnnadeeoejchpaaLmCode2
set_option linter.all false
namespace Go.Lm
section
variable {P : Program} {lc : Lc}
variable {F : Fence} {n : Nat} {call : Caller} {q : V × St}

theorem comp_next (N D : Nat) : ∀ (c : Code) (m : Nat), (compCode P N D c m).2.1 = (loopsOf c m).1
  | .skip, m | .label _, m | .exit _, m | .ret, m | .scope _, m | .goto _, m | .refuse _, m => by simp [compCode, loopsOf]
  | .region _ _ false, m | .region _ _ true, m => by simp [compCode, loopsOf]
  | .seq a b, m => by simp only [compCode, loopsOf]; rw [comp_next N D a m, comp_next N D b]
  | .cond _ a b, m => by simp only [compCode, loopsOf]; rw [comp_next N D a m, comp_next N D b]
  | .block _ b, m => by simp only [compCode, loopsOf]; rw [comp_next N D b]
  | .loop b, m => by simp only [compCode, loopsOf]; rw [comp_next N D b]
  | .rangeFunc _ _ a b, m => by simp only [compCode, loopsOf]; rw [comp_next N D a, comp_next N D b]

theorem walk_bad {N D h0 j : Nat} {c : Code} : WalkOk P lc F n N D h0 call c (cBad j) := fun e s ρ w a kx q Q hk => by cases hk

theorem code_ok {N D h0 : Nat} (hB : N ≤ 1000000) (hW : IsWide F) (hC : CallerOk P lc call) (hD : DrawsOk P lc F n call) : ∀ (c : Code) (m : Nat),
    (F = Fence.wide ∨ (loopsOf c m).2 = []) → (∀ x ∈ (loopsOf c m).2, lc.f x.1 = some (x.2.1, x.2.2, N) ∧ lc.D x.1 = D) → WalkOk P lc F n N D h0 call c (compCode P N D c m).1
  | .skip, m, _, _ => by
    intro e s ρ w a kx q Q hk hR hE hD hN hM hh hQ
    simp only [compCode] at hk
    exact wpIn_skip (hQ .nrm e s ρ w a hk (Goes.refl hR) hE hD hN hM)
  | .label l, m, _, _ => by
    intro e s ρ w a kx q Q hk hR hE hD hN hM hh hQ
    simp only [compCode] at hk
    exact wpIn_label (hQ .nrm e s ρ w a hk (Goes.refl hR) hE hD hN hM)
  | .exit id, m, _, _ => by
    intro e s ρ w a kx q Q hk hR hE hD hN hM hh hQ
    simp only [compCode] at hk
    exact wpIn_exit (hQ (.brk id) e s ρ w a hk (Goes.refl hR) hE hD hN hM)
  | .ret, m, _, _ => by
    intro e s ρ w a kx q Q hk hR hE hD hN hM hh hQ
    simp only [compCode] at hk
    exact wpIn_ret (hQ .ret e s ρ w a hk (Goes.refl hR) hE hD hN hM)
  | .scope _, m, _, _ => by simp only [compCode]; exact walk_bad
  | .goto _, m, _, _ => by simp only [compCode]; exact walk_bad
  | .refuse _, m, _, _ => by simp only [compCode]; exact walk_bad
  | .region id ops false, m, _, _ => by simp only [compCode]; exact walk_ops hB hW.fn (opsOk hW hC)
  | .region id ops true, m, _, _ => by
    simp only [compCode]
    rw [ifB_eq]
    by_cases h : (drawOk ops && ops.toList.all (fun o => dstOk N o.dst)) = true
    · rw [if_pos h]
      have h := Bool.and_eq_true_iff.1 h
      intro e s ρ w a kx q Q hk hR hE hDD hN hM hh hQ
      exact hD N D id ops e s ρ w a kx q Q h.1 h.2 hB hk hR hE hDD hN fun e' s' ρ' w' a' hk' hg hE' hD' hN' hd => hQ .nrm e' s' ρ' w' a' hk' hg hE' hD' hN' (by rw [hd]; exact hM.goes hg)
    · rw [if_neg h]; exact walk_bad
  | .seq a b, m, hw, hl => by
    simp only [compCode]
    simp only [loopsOf] at hw hl
    rw [comp_next]
    exact walk_seq (code_ok hB hW hC hD a m (hw.imp id fun h => (List.append_eq_nil_iff.1 h).1) fun x hx => hl x (List.mem_append_left _ hx))
      (code_ok hB hW hC hD b _ (hw.imp id fun h => (List.append_eq_nil_iff.1 h).2) fun x hx => hl x (List.mem_append_right _ hx))
  | .cond c a b, m, hw, hl => by
    simp only [compCode]
    simp only [loopsOf] at hw hl
    rw [comp_next]
    cases hx : compO [] c with
    | none => exact walk_bad
    | some x =>
      exact walk_cond hx (code_ok hB hW hC hD a m (hw.imp id fun h => (List.append_eq_nil_iff.1 h).1) fun x hx => hl x (List.mem_append_left _ hx))
        (code_ok hB hW hC hD b _ (hw.imp id fun h => (List.append_eq_nil_iff.1 h).2) fun x hx => hl x (List.mem_append_right _ hx))
  | .block id b, m, hw, hl => by
    simp only [compCode]
    simp only [loopsOf] at hw hl
    exact walk_block (code_ok hB hW hC hD b m hw hl)
  | .loop b, m, hw, hl => by
    simp only [compCode]
    simp only [loopsOf] at hw hl
    exact walk_loop (code_ok hB hW hC hD b m hw hl)
  | .rangeFunc f ps a b, m, hw, hl => by
    simp only [compCode]
    simp only [loopsOf] at hw hl
    have hw : F = Fence.wide := hw.resolve_right (by simp)
    cases hx : compO [] f with
    | none => exact walk_bad
    | some x =>
      dsimp only
      rw [ifB_eq]
      by_cases h : ps.toList.all (fun t => !D.testBit t && decide (t < N)) = true
      · rw [if_pos h]
        obtain ⟨h1, h2⟩ := hl (m, a, b) (List.mem_cons_self ..)
        exact walk_range hw hC hx h h1 h2
      · rw [if_neg h]; exact walk_bad

/-! a function's end -/
def resSem (tmps : Array Value) : ResultVar → Sem Value
  | .tmp t => pure (tmps.getD t undef)
  | .cell a t => do loadVar t (← asAddr (tmps.getD a undef))
theorem results_eq (fn : Func) (tmps : Array Value) : results fn tmps = (do
    let vs ← fn.results.mapM (resSem tmps)
    pure (if h : vs.size = 1 then vs[0] else .tuple vs)) := rfl
theorem res1_ok {ρ : Rho} {s : St} {w : World} {e : Env} {a : Act} {r : ResultVar} {k : V → Res} (hR : Rel lc ρ s w) (hE : EnvR ρ e a) (h : compRes P r e s k = some q) :
    ∃ v rv, k v = some q ∧ VR ρ v rv ∧ (resSem a.tmps r).run P w = .ok rv w := by
  cases r with
  | tmp t =>
    obtain ⟨v, hv, h⟩ := bind_some.1 (show (e.get t).bind k = some q by rw [← orec]; exact h)
    exact ⟨v, _, h, hE t v hv, rfl⟩
  | cell x t =>
    have hx : ∀ {f : V → Res}, ot x e f = some q → ∃ v, f v = some q ∧ VR ρ v (a.tmps.getD x undef) := fun {f} h => by
      obtain ⟨v, hv, h⟩ := bind_some.1 (show (e.get x).bind f = some q by rw [← orec]; exact h)
      exact ⟨v, h, hE x v hv⟩
    simp only [compRes] at h
    cases hg : isAggT P t with
    | none => rw [hg] at h; cases h
    | some g =>
      rw [hg] at h
      unfold resSem
      cases g with
      | true =>
        obtain ⟨v, h, hv⟩ := hx h
        obtain ⟨h4, h⟩ := chk_some.1 h
        obtain ⟨p, hp, ha⟩ := hv.inv_ptr (beq_t.1 h4)
        obtain ⟨l, h, ht, hl, hgt⟩ := loadL_some h
        obtain ⟨l', h5, h6, h7⟩ := cells_val hR hp ht hl hgt
        obtain ⟨i, hi⟩ := isAgg_info hg
        refine ⟨_, _, h, .agg h5 h6, ?_⟩
        simp only [ha, asAddr, Sem.run_bind, Sem.run_pure, Result.andThen_ok, loadVar, run_isAgg hg, if_true, run_sizeOf hi]
        rw [run_loadCells (l := l') (by rw [← h5.length]; exact hl) h7]; rfl
      | false =>
        obtain ⟨v, h, hv⟩ := hx h
        obtain ⟨h4, h⟩ := chk_some.1 h
        obtain ⟨p, hp, ha⟩ := hv.inv_ptr (beq_t.1 h4)
        rw [load1_eq] at h
        by_cases ht : (s.at v.a).t ≤ 1
        · rw [if_pos ht] at h
          obtain ⟨u, hu, h⟩ := bind_some.1 h
          obtain ⟨r, h5, h6, h7⟩ := cell_val hR hp ht hu
          refine ⟨_, _, h, h6, ?_⟩
          simp only [ha, asAddr, Sem.run_bind, Sem.run_pure, Result.andThen_ok, loadVar, run_isAgg hg, Bool.false_eq_true, if_false]
          exact run_load_some h5
        · rw [if_neg ht] at h; cases h

theorem resL_ok {ρ : Rho} {s : St} {w : World} {e : Env} {a : Act} (hR : Rel lc ρ s w) (hE : EnvR ρ e a) : ∀ {l : List ResultVar} {k : List V → Res}, resL (l.map (compRes P)) e s k = some q →
    ∃ vs rs, k vs = some q ∧ VRL ρ vs rs ∧ (l.mapM (resSem a.tmps)).run P w = .ok rs w
  | [], k, h => ⟨[], [], h, .nil, rfl⟩
  | r :: l, k, h => by
    obtain ⟨v, rv, h, hv, hrun⟩ := res1_ok hR hE (show compRes P r e s (fun v => resL (l.map (compRes P)) e s fun l => k (v :: l)) = some q from h)
    obtain ⟨vs, rs, h, hvs, hruns⟩ := resL_ok hR hE h
    refine ⟨v :: vs, rv :: rs, h, .cons hv hvs, ?_⟩
    rw [List.mapM_cons]
    simp only [Sem.run_bind]
    simp only [hrun, Result.andThen_ok, hruns, Sem.run_pure]

theorem results_ok {ρ : Rho} {s : St} {w : World} {e : Env} {a : Act} {fn : Func} {k : K} (hR : Rel lc ρ s w) (hE : EnvR ρ e a)
    (h : resL (fn.results.toList.map (compRes P)) e s (fun l => k (oneOf l) s) = some q) : ∃ v rv, k v s = some q ∧ VR ρ v rv ∧ (results fn a.tmps).run P w = .ok rv w := by
  obtain ⟨vs, rs, h, hv, hrun⟩ := resL_ok hR hE h
  have hrun2 : (results fn a.tmps).run P w = .ok (if h : rs.toArray.size = 1 then rs.toArray[0] else .tuple rs.toArray) w := by
    rw [results_eq, Array.mapM_eq_mapM_toList]
    simp only [Sem.run_bind, Sem.run_map, hrun, Result.andThen_ok, Sem.run_pure]
  refine ⟨_, _, h, ?_, hrun2⟩
  cases hv with
  | nil => exact .tup .nil
  | cons x y => cases y with
    | nil => exact x
    | cons y z => exact .tup (.cons x (.cons y z))

theorem leaves_ok {h0 : Nat} {ρ0 : Rho} {s0 : St} {w0 : World} {fn : Func} {R : Ending → World → Prop} (hh : w0.heap.size = h0) {tmps : Array Value} {ρ : Rho} {s : St}
    (hR : ∀ w, Goes lc ρ0 s0 w0 ρ s w → ∃ v, (results fn tmps).run P w = .ok v w ∧ R (.returned v) w) : ∀ (ds : List Deferred) (w : World), Goes lc ρ0 s0 w0 ρ s w → MarksOk h0 ρ s w ds → LeavesInM F n P fn tmps R ds .returning w
  | [], w, hg, _ => hR w hg
  | d :: ds, w, hg, hM => by
    obtain ⟨⟨r, h1, h2, h3, h4, h5, h6⟩, h7⟩ := hM
    refine ⟨by simp, .inl ⟨r, w.putObj r (.deferred none), by rw [h1], run_takeDeferred h4, ?_⟩⟩
    have hg' : Goes lc ρ0 s0 w0 ρ s (w.putObj r (.deferred none)) := hg.writeU (by omega) h5 World.putObj_size (fun x hx => World.putObj_heap_other hx) rfl rfl rfl
    refine leaves_ok hh hR ds _ hg' ?_
    clear hg' hg h1
    induction ds with
    | nil => trivial
    | cons d' ds ih =>
      obtain ⟨⟨r', a1, a2, a3, a4, a5, a6⟩, a7⟩ := h7
      refine ⟨⟨r', a1, a2, by rw [World.putObj_size]; exact a3, ?_, a5, a6⟩, ih a7 (fun x hx => h6 x (List.mem_cons_of_mem _ hx))⟩
      rw [World.putObj_heap_other (h6 r' (by rw [a1]; exact List.mem_cons_self ..))]
      exact a4
end
end Go.Lm
