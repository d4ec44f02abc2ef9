/- A round; every call. -/
import Derived.Test.YtnnadeeoejchpaaLmEv
set_option linter.all false
namespace Go.Lm
section
variable {P : Program} {lc : Lc} {p : Prg}
variable {call : Caller} {q : V × St}

theorem setPs_some : ∀ {ps : List Nat} {vs : List V} {e : Env} {k : Env → Res}, setPs ps vs e k = some q → ps.length = vs.length ∧ k ((ps.zip vs).foldl (fun e x => e.set x.1 x.2) e) = some q
  | [], [], e, k, h => ⟨rfl, h⟩
  | [], _ :: _, e, k, h => by cases h
  | t :: ps, [], e, k, h => by cases h
  | t :: ps, v :: vs, e, k, h => by
    have h : (e.setK t v fun e => setPs ps vs e k) = some q := h
    rw [setK_eq] at h
    obtain ⟨h1, h2⟩ := setPs_some h
    exact ⟨by simp [h1], h2⟩

theorem setPs_env {ρ : Rho} : ∀ {ps : List Nat} {vs : List V} {rs : List Value} {e : Env} {tmps : Array Value}, VRL ρ vs rs → (∀ t ∈ ps, t < tmps.size) → EnvR ρ e ⟨tmps, []⟩ →
    EnvR ρ ((ps.zip vs).foldl (fun e x => e.set x.1 x.2) e) ⟨(ps.zip rs).foldl (fun tmps (x : Nat × Value) => tmps.setIfInBounds x.1 x.2) tmps, []⟩
  | [], _, _, e, tmps, _, _, hE => by simpa using hE
  | t :: ps, _, _, e, tmps, .nil, _, hE => by simpa using hE
  | t :: ps, _, _, e, tmps, .cons hv hvs, hp, hE => by
    simp only [List.zip_cons_cons, List.foldl_cons]
    refine setPs_env hvs (fun u hu => by rw [Array.size_setIfInBounds]; exact hp u (List.mem_cons_of_mem _ hu)) ?_
    exact EnvR.put (a := ⟨tmps, []⟩) hE (hp t (List.mem_cons_self ..)) hv

theorem setPs_noD {D : Nat} : ∀ {ps : List Nat} {vs : List V} {e : Env}, (∀ t ∈ ps, D.testBit t = false) → NoD D e → NoD D ((ps.zip vs).foldl (fun e x => e.set x.1 x.2) e)
  | [], _, e, _, hE => by simpa using hE
  | t :: ps, [], e, _, hE => by simpa using hE
  | t :: ps, v :: vs, e, hp, hE => by
    simp only [List.zip_cons_cons, List.foldl_cons]
    exact setPs_noD (fun u hu => hp u (List.mem_cons_of_mem _ hu)) (hE.set (hp t (List.mem_cons_self ..)))

theorem setPs_size : ∀ {ps : List Nat} {rs : List Value} {tmps : Array Value}, ((ps.zip rs).foldl (fun tmps (x : Nat × Value) => tmps.setIfInBounds x.1 x.2) tmps).size = tmps.size
  | [], _, tmps => by simp
  | t :: ps, [], tmps => by simp
  | t :: ps, v :: rs, tmps => by
    simp only [List.zip_cons_cons, List.foldl_cons]
    rw [setPs_size, Array.size_setIfInBounds]

/-- the record of a loop is turned -/
theorem loop_set {ρ : Rho} {s : St} {w : World} {l : Nat} {pl : Pl} {L L' : Loop} {c' : Cell} (hR : Rel lc ρ s w) (ht : (s.at l).t = 3) (hp : ρ l = some pl) (ho : pl.own = true) (hL : w.heap[pl.blk]? = some (.loop L))
    (ht' : c'.t = 3) (hl : LoopR ρ lc c' L') : Goes lc ρ s w ρ ⟨s.h.set l c', s.n⟩ (w.putObj pl.blk (.loop L')) :=
  hR.setOwn (live_at (by omega)) hp ho (by omega) World.putObj_size (fun r hr => World.putObj_heap_other hr) rfl rfl rfl
    ⟨fun h => by omega, fun h => by omega, fun h => by omega, fun _ => ⟨ho, L', World.putObj_heap_same (heap_lt hL), hl⟩, by omega⟩

theorem end_ok {ρ : Rho} {s : St} {w : World} {l left : Nat} {k : K} {ans : V} {pl : Pl} {jump : Option Code} (hR : Rel lc ρ s w) (hp : ρ l = some pl)
    (hj : (left = 0 ∧ jump = none) ∨ (left = 1 ∧ jump = some .ret) ∨ (∃ j, left = 2 + j ∧ jump = some (.exit j))) (h : endRound s l left k ans = some q) :
    ∃ s' w', (Instr.endRound pl.blk jump).run P w = .ok (.bool jump.isNone) w' ∧ k ans s' = some q ∧ Goes lc ρ s w ρ s' w' := by
  have h : chk (Nat.beq (s.at l).t 3) (s.h.setK l ⟨3, bs (Nat.beq left 0) 0 2, [], (s.at l).c, (s.at l).size, left, [], (s.at l).ps⟩ fun h => k ans ⟨h, s.n⟩) = some q := h
  obtain ⟨ht, h⟩ := chk_some.1 h
  have ht := beq_t.1 ht
  rw [setK_eq] at h
  obtain ⟨pl', L, hp', ho, hL, hlr⟩ := loop_of hR ht
  rw [hp] at hp'; cases hp'
  refine ⟨_, _, run_endRound jump hL, h, loop_set hR ht hp ho hL rfl ?_⟩
  have hm : ∀ {b : Bool}, (bs b 0 2 : Nat) = if b then 0 else 2 := fun {b} => by cases b <;> rfl
  refine ⟨hlr.code, hlr.noD, hlr.ps, hlr.env, fun h0 => ?_, fun h0 => ?_, hlr.psOk, fun h0 => ?_, fun h0 => ?_, fun h0 => ?_, fun j h0 => ?_⟩
  · have h0 : (bs (Nat.beq left 0) 0 2 : Nat) = 0 := h0
    rw [hm] at h0
    rcases hj with ⟨rfl, rfl⟩ | ⟨rfl, rfl⟩ | ⟨j, rfl, rfl⟩
    · rfl
    · simp at h0
    · rw [if_neg (by rw [beq_t]; omega)] at h0; cases h0
  · have h0 : (bs (Nat.beq left 0) 0 2 : Nat) = 3 := h0
    rw [hm] at h0; split at h0 <;> cases h0
  · have h0 : (bs (Nat.beq left 0) 0 2 : Nat) = 2 := h0
    rw [hm] at h0
    rcases hj with ⟨rfl, rfl⟩ | ⟨rfl, rfl⟩ | ⟨j, rfl, rfl⟩
    · simp at h0
    · rfl
    · rfl
  · have h0 : left = 0 := h0
    rcases hj with ⟨rfl, rfl⟩ | ⟨rfl, rfl⟩ | ⟨j, rfl, rfl⟩
    · rfl
    · cases h0
    · omega
  · have h0 : left = 1 := h0
    rcases hj with ⟨rfl, rfl⟩ | ⟨rfl, rfl⟩ | ⟨j, rfl, rfl⟩
    · cases h0
    · rfl
    · omega
  · have h0 : left = 2 + j := h0
    rcases hj with ⟨rfl, rfl⟩ | ⟨rfl, rfl⟩ | ⟨j', rfl, rfl⟩
    · omega
    · omega
    · have : j' = j := by omega
      rw [this]

theorem round_ok {l : Nat} {args : List V} {ARGS : List Value} {s : St} {k : K} {ρ : Rho} {w : World} {pl : Pl} (hp : PrgOk P lc p) (hDr : AllDraws P lc) (hC : CallerOk P lc call) (hR : Rel lc ρ s w) (hpl : ρ l = some pl)
    (hA : VRL ρ args ARGS) (h : runRound p.bodies call l args s k = some q) :
    ∃ f tmps a b, (Instr.yield pl.blk ⟨ARGS⟩).run P w = .ok (.round pl.blk f tmps a b) w ∧ RoundIn Fence.wide 0 P pl.blk f tmps a b w (onlyRet fun rv w' => ∃ v s' ρ', k v s' = some q ∧ Goes lc ρ s w ρ' s' w' ∧ VR ρ' v rv) := by
  have h : chk (Nat.beq (s.at l).t 3) (chk (Nat.beq (s.at l).m 0) (setPs (s.at l).ps args (s.at l).c fun e =>
    s.h.setK l ⟨3, 3, [], (s.at l).c, (s.at l).size, (s.at l).esz, [], (s.at l).ps⟩ fun h => bod (p.bodies.get (s.at l).size) fun as bo => as call e ⟨h, s.n⟩ fun x e s => exr x
      (begRound s l fun s => bo call e s fun x _ s' => exr x (endRound s' l 0 k vT) (fun j => endRound s' l (Nat.succ (Nat.succ j)) k vF) (endRound s' l 1 k vF))
      (fun _ => none) none)) = some q := h
  obtain ⟨ht, h⟩ := chk_some.1 h
  have ht := beq_t.1 ht
  obtain ⟨hm, h⟩ := chk_some.1 h
  have hm := beq_t.1 hm
  obtain ⟨hlen, h⟩ := setPs_some h
  rw [setK_eq] at h
  obtain ⟨pl', L, hp', ho, hL, hlr⟩ := loop_of hR ht
  rw [hpl] at hp'; cases hp'
  have hsz : (⟨ARGS⟩ : Array Value).size = L.params.size := by
    have h1 : L.params.size = L.params.toList.length := by simp
    rw [h1, ← hlr.ps, hlen, hA.length]; rfl
  refine ⟨L.fn, _, L.assign, L.body, run_yield hL hsz, ?_⟩
  -- the frame of the round
  have hfold : (L.params.zip ⟨ARGS⟩).foldl (fun tmps (x : Tmp × Value) => tmps.setIfInBounds x.1 x.2) L.tmps = ((s.at l).ps.zip ARGS).foldl (fun tmps (x : Nat × Value) => tmps.setIfInBounds x.1 x.2) L.tmps := by
    rw [hlr.ps, ← Array.foldl_toList, Array.toList_zip]
  have hE0 := setPs_env (e := (s.at l).c) hA (fun t ht => (hlr.psOk t ht).1) (fun t v hv => hlr.env t v hv)
  have hD0 := setPs_noD (vs := args) (e := (s.at l).c) (fun t ht => (hlr.psOk t ht).2) hlr.noD
  -- the loop's body
  cases hb : p.bodies.get (s.at l).size with
  | none => rw [hb] at h; cases h
  | some x =>
    rw [hb] at h
    obtain ⟨as, bo, N, D, m, m2, h1, h2, h3, rfl, h5, h6⟩ := hp.bodies _ _ hb
    have hcode := hlr.code
    rw [h1] at hcode
    simp only [Option.some.injEq, Prod.mk.injEq] at hcode
    obtain ⟨rfl, rfl, hN⟩ := hcode
    have h : (compCode P N D L.assign m).1 call _ ⟨_, s.n⟩ _ = some q := h
    rw [h2] at hD0
    -- it is begun
    have hG1 := loop_set (c' := ⟨3, 3, [], (s.at l).c, (s.at l).size, (s.at l).esz, [], (s.at l).ps⟩) (L' := L) hR ht hpl ho hL rfl
      ⟨by show lc.f (s.at l).size = _; rw [h1, hN], hlr.noD, hlr.ps, hlr.env, fun e => (by cases e), fun _ => hlr.ready hm, hlr.psOk, fun e => (by cases e), hlr.out, hlr.ret, hlr.brk⟩
    have hself : w.putObj pl.blk (.loop L) = w := by
      unfold World.putObj
      have : w.heap.setIfInBounds pl.blk (.loop L) = w.heap := by
        apply Array.ext_getElem?
        intro i
        by_cases e : pl.blk = i
        · subst e; rw [Array.getElem?_setIfInBounds_self_of_lt (heap_lt hL), hL]
        · rw [Array.getElem?_setIfInBounds_ne e]
      rw [this]
    rw [hself] at hG1
    refine roundIn_of_wpIn trivial ?_
    refine code_ok (h0 := w.heap.size) h3 (.inr ⟨pl.blk, rfl⟩) hC (hDr _ _ _ (.inr ⟨pl.blk, rfl⟩) hC) L.assign m (.inr h5) (fun x hx => by rw [h5] at hx; cases hx) _ _ ρ w _ _ q _ h hG1.rel ?_ hD0 ?_ trivial (Nat.le_refl _) ?_
    · show EnvR ρ _ ⟨_, []⟩
      rw [hfold]; exact hE0
    · show Array.size _ = N
      rw [hfold, setPs_size, ← hN]
    intro x e1 s1 ρ1 w1 a1 hk hG2 hE1 hD1 hN1 hM1
    rcases exr_some hk with ⟨rfl, hk⟩ | ⟨j, rfl, hk⟩ | ⟨rfl, hk⟩
    · have hk : chk (Nat.beq (s1.at l).t 3) (chk (Nat.beq (s1.at l).m 3) (s1.h.setK l ⟨3, 1, [], (s1.at l).c, (s1.at l).size, (s1.at l).esz, [], (s1.at l).ps⟩ fun h =>
        (compCode P N D L.body m2).1 call e1 ⟨h, s1.n⟩ fun x _ s' => exr x (endRound s' l 0 k vT) (fun j => endRound s' l (Nat.succ (Nat.succ j)) k vF) (endRound s' l 1 k vF))) = some q := hk
      obtain ⟨ht1, hk⟩ := chk_some.1 hk
      have ht1 := beq_t.1 ht1
      obtain ⟨hm1, hk⟩ := chk_some.1 hk
      have hm1 := beq_t.1 hm1
      rw [setK_eq] at hk
      obtain ⟨pl1, L1, hp1, ho1, hL1, hlr1⟩ := loop_of hG2.rel ht1
      have : pl1 = pl := by have := hG2.le _ _ hpl; rw [this] at hp1; exact (Option.some.inj hp1).symm
      subst this
      have hG3 := loop_set (c' := ⟨3, 1, [], (s1.at l).c, (s1.at l).size, (s1.at l).esz, [], (s1.at l).ps⟩) (L' := { L1 with state := .busy }) hG2.rel ht1 hp1 ho1 hL1 rfl
        ⟨hlr1.code, hlr1.noD, hlr1.ps, hlr1.env, fun e => (by cases e), fun e => (by cases e), hlr1.psOk, fun e => (by cases e), hlr1.out, hlr1.ret, hlr1.brk⟩
      refine ⟨_, run_beginRound hL1 (hlr1.mid hm1), ?_⟩
      refine code_ok (h0 := w.heap.size) h3 (.inr ⟨pl1.blk, rfl⟩) hC (hDr _ _ _ (.inr ⟨pl1.blk, rfl⟩) hC) L.body m2 (.inr h6) (fun x hx => by rw [h6] at hx; cases hx) _ _ ρ1 _ _ _ q _ hk hG3.rel hE1 hD1 hN1 (hM1.goes hG3) ((hG2.trans hG3).keep.size) ?_
      intro x e2 s2 ρ2 w2 a2 hk hG4 hE2 hD2 hN2 _
      have hp2 : ρ2 l = some pl1 := hG4.le _ _ hp1
      have hG := ((hG1.trans hG2).trans hG3).trans hG4
      rcases exr_some hk with ⟨rfl, hk⟩ | ⟨j, rfl, hk⟩ | ⟨rfl, hk⟩
      · obtain ⟨s3, w3, hrun, hk, hG5⟩ := end_ok (P := P) (jump := none) hG4.rel hp2 (.inl ⟨rfl, rfl⟩) hk
        exact ⟨_, _, hrun, _, _, _, hk, hG.trans hG5, .t⟩
      · obtain ⟨s3, w3, hrun, hk, hG5⟩ := end_ok (P := P) (jump := some (.exit j)) hG4.rel hp2 (.inr (.inr ⟨j, by omega, rfl⟩)) hk
        exact ⟨_, _, hrun, _, _, _, hk, hG.trans hG5, .f⟩
      · obtain ⟨s3, w3, hrun, hk, hG5⟩ := end_ok (P := P) (jump := some .ret) hG4.rel hp2 (.inr (.inl ⟨rfl, rfl⟩)) hk
        exact ⟨_, _, hrun, _, _, _, hk, hG.trans hG5, .f⟩
    · cases hk
    · cases hk

theorem call_ok (hp : PrgOk P lc p) (hDr : AllDraws P lc) (hC : CallerOk P lc call) : CallerOk P lc (callStep p call) := by
  intro f args s k q ρ w FV ARGS h hR hf hA
  unfold callStep at h
  rcases bs_some.1 h with ⟨h1, h⟩ | ⟨h1, h⟩
  · obtain ⟨l', hl', rfl⟩ := hf.inv_fn (beq_t.1 h1)
    rw [catK_eq] at h
    have hA2 := hA.append hl'
    have hargs : (#[] ++ (⟨ARGS⟩ : Array Value)) ++ (⟨l'⟩ : Array Value) = ⟨ARGS ++ l'⟩ := by simp
    unfold CallR
    dsimp only
    rw [hargs]
    cases hg : p.fns.get f.a with
    | none => rw [hg] at h; cases h
    | some g =>
      rw [hg] at h
      have h : g call (args ++ f.l) s k = some q := h
      rcases hp.fns _ _ hg with ⟨fn, c, D, m, h2, h3, h4, rfl, h5⟩ | hx
      · exact .inl ⟨MuLone.run_callFunc_enter h2 h3 h4 _ _, fn_ok hDr hC h2 h4 h5 hR hA2 h⟩
      · obtain ⟨hy, rv, w', hrun, v, s', ρ', hk, hgo, hv⟩ := hx _ _ _ _ _ _ _ _ h hR hA2
        exact .inr ⟨fun l e => hy l (by simpa using e), rv, w', hrun, v, s', ρ', hk, hgo, hv⟩
  · obtain ⟨h1, h⟩ := chk_some.1 h
    obtain ⟨pl, hpl, rfl⟩ := hf.inv_yield (beq_t.1 h1)
    unfold CallR
    dsimp only
    rw [Array.empty_append]
    exact round_ok hp hDr hC hR hpl hA h

theorem evCall_ok (hp : PrgOk P lc p) (hDr : AllDraws P lc) : ∀ n, CallerOk P lc (evCall p n)
  | 0 => fun f args s k q ρ w FV ARGS h => by cases h
  | n + 1 => call_ok hp hDr (evCall_ok hp hDr n)
end
end Go.Lm
