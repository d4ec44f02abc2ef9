/- A loop over a function, walked; code. -/
import Derived.Test.YtnnadeeoejchpaaLmCode
import Derived.RangeFuncRecord
set_option linter.all false
namespace Go.Lm
section
variable {P : Program} {lc : Lc}
variable {F : Fence} {n : Nat} {call : Caller} {q : V × St}

theorem at_get {s : St} {i : Nat} (h : (s.at i).t ≠ 4) : s.h.get i = some (s.at i) := by
  unfold St.at at h ⊢
  cases e : s.h.get i with
  | none => rw [e] at h; exact absurd rfl h
  | some c => rfl
theorem live_at {s : St} {i : Nat} (h : (s.at i).t ≠ 4) : Live s i (s.at i) := ⟨at_get h, h⟩

theorem loop_of {ρ : Rho} {s : St} {w : World} {i : Nat} (hR : Rel lc ρ s w) (h : (s.at i).t = 3) : ∃ p L, ρ i = some p ∧ p.own = true ∧ w.heap[p.blk]? = some (.loop L) ∧ LoopR ρ lc (s.at i) L := by
  obtain ⟨p, hp, _, _, _, h3, _⟩ := hR.cell i _ (live_at (by omega))
  obtain ⟨ho, L, hL, hl⟩ := h3 h
  exact ⟨p, L, hp, ho, hL, hl⟩

theorem heap_lt {w : World} {r : Nat} {o : Obj} (h : w.heap[r]? = some o) : r < w.heap.size := by
  rcases Nat.lt_or_ge r w.heap.size with h' | h'
  · exact h'
  · rw [Array.getElem?_eq_none h'] at h; cases h

theorem walk_range {N D h0 m : Nat} {g : Operand} {g' : Od} {ps : Array Tmp} {as bo : Code} (hF : F = Fence.wide) (hC : CallerOk P lc call) (hg : compO [] g = some g')
    (hps : ps.toList.all (fun t => !D.testBit t && decide (t < N)) = true) (hlc : lc.f m = some (as, bo, N)) (hlD : lc.D m = D) :
    WalkOk P lc F n N D h0 call (.rangeFunc g ps as bo) (cRange g' ps.toList m) := by
  intro e s ρ w a kx q Q hk hR hE hD hN hM hh hQ
  subst hF
  refine wpIn_rangeFunc fun fn _ => ?_
  -- the evaluator
  obtain ⟨v, hk, hv⟩ := compO_ok hE AlOk.nil hg _ _ (show g' e (fun x => _) = some q from hk)
  obtain ⟨ht, hk⟩ := chk_some.1 hk
  have ht := beq_t.1 ht
  unfold newK at hk
  rw [setK_eq] at hk
  rw [fN_eq] at hk
  -- the machine
  let w1 := w.alloc (.deferred (some []))
  let L : Loop := { state := .ready, pending := none, fn, tmps := a.tmps, params := ps, assign := as, body := bo, defers := w.heap.size }
  let p : Pl := ⟨w.heap.size + 1, 0, true, 0, 0⟩
  let c0 : Cell := ⟨3, 0, [], e, m, 0, [], ps.toList⟩
  have hG1 : Goes lc ρ s w ρ s w1 := Goes.allocU hR _
  have hsz1 : w1.heap.size = w.heap.size + 1 := by show (w.heap.push _).size = _; simp
  have hn : ρ s.n = none := by
    cases e : ρ s.n with
    | none => rfl
    | some q => exact absurd (hR.scope _ _ e) (by omega)
  have hle := Rho.le_put p hn
  have hloop : (w1.alloc (.loop L)).heap[p.blk]? = some (.loop L) := by
    have := World.alloc_heap_new w1 (.loop L)
    rw [hsz1] at this; exact this
  have hcr : CellR lc (ρ.put s.n p) c0 p (w1.alloc (.loop L)) := by
    refine ⟨fun h => (by cases h), fun h => (by cases h), fun h => (by cases h), fun _ => ⟨rfl, L, hloop, ?_⟩, by show 3 ≤ 4; omega⟩
    refine ⟨by show lc.f m = _; rw [hlc, hN], by show NoD (lc.D m) e; rw [hlD]; exact hD, rfl, fun t v hv => (hE t v hv).mono hle, fun _ => rfl, fun h => (by cases h), ?_, fun h => (by cases h), fun _ => rfl, fun h => (by cases h), fun j h => ?_⟩
    · intro t ht
      have := List.all_eq_true.1 hps t ht
      simp only [Bool.and_eq_true, Bool.not_eq_true', decide_eq_true_eq] at this
      exact ⟨by show t < a.tmps.size; rw [hN]; exact this.2, by show (lc.D m).testBit t = false; rw [hlD]; exact this.1⟩
    · have : (0 : Nat) = 2 + j := h; omega
  have hG2 : Goes lc ρ s w (ρ.put s.n p) ⟨s.h.set s.n c0, s.n + 1⟩ (w1.alloc (.loop L)) :=
    hG1.trans (hG1.rel.alloc (by show w.heap.size + 1 = _; rw [hsz1]) rfl hcr)
  -- the call
  have hcall := hC _ _ _ _ _ (ρ.put s.n p) (w1.alloc (.loop L)) _ [.func (.yield (w.heap.size + 1)) #[] #[]] hk hG2.rel (hv.mono hle) (.cons (.yield (Rho.put_self _ _ _)) .nil)
  obtain ⟨l', hl', hX⟩ := hv.inv_fn ht
  rw [hX] at hcall
  obtain ⟨h1, h2⟩ := hcall.resolve_right fun h => h.1 (w.heap.size + 1) (by simp)
  have hres : (resolve a.eval (rangeCall g (w.heap.size + 1)) 0).run P (w1.alloc (.loop L)) = .ok { target := .fn (.func v.a) ⟨l'⟩, args := #[] ++ (⟨[.func (.yield (w.heap.size + 1)) #[] #[]]⟩ : Array Value) } (w1.alloc (.loop L)) := by
    have em : Array.map a.eval #[Operand.const (.func (.yield (w.heap.size + 1)) #[] #[])] = (⟨[.func (.yield (w.heap.size + 1)) #[] #[]]⟩ : Array Value) := by simp [Act.eval]
    simp only [resolve, rangeCall, hX, Deferred.ofValue, Sem.run_pure, em]
  have hinv : (invoke (.fn (.func v.a) ⟨l'⟩) (#[] ++ (⟨[.func (.yield (w.heap.size + 1)) #[] #[]]⟩ : Array Value))).run P (w1.alloc (.loop L)) =
      .ok (.enter v.a ((#[] ++ (⟨[.func (.yield (w.heap.size + 1)) #[] #[]]⟩ : Array Value)) ++ (⟨l'⟩ : Array Value))) (w1.alloc (.loop L)) := h1
  refine ⟨w.heap.size + 1, [{ target := .collected w.heap.size, args := #[] }], w1.alloc (.loop L), _, w1.alloc (.loop L), v.a,
    (#[] ++ (⟨[.func (.yield (w.heap.size + 1)) #[] #[]]⟩ : Array Value)) ++ (⟨l'⟩ : Array Value), w1.alloc (.loop L), run_enterLoop_outer fn a.tmps ps as bo, hres, fun _ _ => trivial, hinv, fun h => (by cases h), ?_⟩
  refine CallsIn.mono (callsIn_wide.2 h2) fun en w' hen => ?_
  cases en with
  | panicked _ => exact hen.elim
  | outgrown => exact hen.elim
  | returned rv =>
    obtain ⟨v', s', ρ', hk, hG3, _⟩ := hen
    obtain ⟨ht3, hk⟩ := chk_some.1 hk
    obtain ⟨hm, hk⟩ := chk_some.1 hk
    have ht3 := beq_t.1 ht3
    rw [setK_eq] at hk
    obtain ⟨p', L', hp', ho', hL', hlr⟩ := loop_of hG3.rel ht3
    have hpp : p' = p := by
      have := hG3.le s.n p (Rho.put_self _ _ _)
      rw [this] at hp'; exact (Option.some.inj hp').symm
    subst hpp
    have hst : L'.state ≠ .busy := by
      rw [bs_ite] at hm
      by_cases h0 : (s'.at s.n).m = 0
      · rw [hlr.ready h0]; simp
      · rw [if_neg (by rw [beq_t]; exact h0)] at hm
        rw [hlr.done (beq_t.1 hm)]; simp
    have hlt : p.blk < w'.heap.size := heap_lt hL'
    have hG4 := hG2.trans hG3
    have hin : s.n < s'.n := Nat.lt_of_lt_of_le (Nat.lt_succ_self _) hG3.n
    have hK := hG4.rel.kill s.n hin
    have hnu : ¬ Used ρ' ⟨s'.h.set s.n deadC, s'.n⟩ p.blk := by
      rintro ⟨i, c, p2, hl, hp2, he⟩
      rcases live_set hl with ⟨_, rfl⟩ | ⟨hne, hl⟩
      · exact hl.2 rfl
      · exact hG4.rel.inj s.n i _ _ p p2 (live_at (by omega)) hl hp' hp2 (Ne.symm hne) ho' he
    have hG5 : Goes lc ρ s w ρ' ⟨s'.h.set s.n deadC, s'.n⟩ (w'.putObj p.blk (.loop { L' with state := .exhausted })) :=
      (hG4.trans hK).writeU (by show w.heap.size ≤ w.heap.size + 1; omega) hnu World.putObj_size (fun x hx => World.putObj_heap_other hx) rfl rfl rfl
    refine ⟨L'.pending, _, run_endLoop hL' hst, ?_⟩
    have hEE : EnvR ρ' e { a with defers := [{ target := .collected w.heap.size, args := #[] }] ++ a.defers } := hE.mono hG5.le
    have hMM : MarksOk h0 ρ' ⟨s'.h.set s.n deadC, s'.n⟩ (w'.putObj p.blk (.loop { L' with state := .exhausted })) ([{ target := .collected w.heap.size, args := #[] }] ++ a.defers) := by
      refine ⟨⟨w.heap.size, rfl, hh, ?_, ?_, ?_, ?_⟩, hM.goes hG5⟩
      · have := hG3.keep.size
        rw [World.putObj_size]
        have h2 : (w1.alloc (.loop L)).heap.size = w.heap.size + 2 := by rw [World.size_alloc, hsz1]
        omega
      · rw [World.putObj_heap_other (by show w.heap.size ≠ w.heap.size + 1; omega)]
        have hsame := hG3.keep.same w.heap.size (by rw [World.size_alloc, hsz1]; omega) ?_
        · rw [hsame]
          show ((w.heap.push _).push _)[w.heap.size]? = _
          rw [Array.getElem?_push, if_neg (by simp), Array.getElem?_push, if_pos rfl]
        · rintro ⟨i, c, p2, hl, hp2, _, he⟩
          rcases live_set (s := ⟨s.h, s.n⟩) hl with ⟨rfl, rfl⟩ | ⟨hne, hl⟩
          · rw [Rho.put_self] at hp2; cases hp2
            have : w.heap.size + 1 = w.heap.size := he; omega
          · have hp2 : ρ i = some p2 := by simpa [Rho.put, hne] using hp2
            have := hR.blk_lt hl hp2; omega
      · rintro hu
        rcases hG5.used _ hu with h | ⟨i, c, p2, hl, hp2, he⟩
        · rcases (hG3.trans hK).used _ (by obtain ⟨i, c, p2, hl, hp2, he⟩ := hu; exact ⟨i, c, p2, hl, hp2, he⟩) with h | ⟨i, c, p2, hl, hp2, he⟩
          · rw [World.size_alloc, hsz1] at h; omega
          · rcases live_set (s := ⟨s.h, s.n⟩) hl with ⟨rfl, rfl⟩ | ⟨hne, hl⟩
            · rw [Rho.put_self] at hp2; cases hp2
              have : w.heap.size + 1 = w.heap.size := he; omega
            · have hp2 : ρ i = some p2 := by simpa [Rho.put, hne] using hp2
              have := hR.blk_lt hl hp2; omega
        · have := hR.blk_lt hl hp2; omega
      · intro x hx; have := hM.lt x hx; omega
    have hfin : ∀ x, kx x e ⟨s'.h.set s.n deadC, s'.n⟩ = some q → Q (exOf x) { a with defers := [{ target := .collected w.heap.size, args := #[] }] ++ a.defers } (w'.putObj p.blk (.loop { L' with state := .exhausted })) := fun x hx =>
      hQ x _ _ _ _ _ hx hG5 hEE hD hN hMM
    have key : ∀ pd, L'.pending = pd → (match pd with
        | none => Q .normal { a with defers := [{ target := .collected w.heap.size, args := #[] }] ++ a.defers } (w'.putObj p.blk (.loop { L' with state := .exhausted }))
        | some c => c.wpIn Fence.wide n P Q { a with defers := [{ target := .collected w.heap.size, args := #[] }] ++ a.defers } (w'.putObj p.blk (.loop { L' with state := .exhausted }))) := by
      intro pd hpd
      cases hesz : (s'.at s.n).esz with
      | zero =>
        rw [hlr.out hesz] at hpd; subst hpd
        rw [hesz] at hk
        exact hfin .nrm hk
      | succ j =>
        rw [hesz] at hk
        cases j with
        | zero => rw [hlr.ret hesz] at hpd; subst hpd; exact wpIn_ret (hfin .ret hk)
        | succ j => rw [hlr.brk j (by rw [hesz]; omega)] at hpd; subst hpd; exact wpIn_exit (hfin (.brk j) hk)
    exact key _ rfl
end
end Go.Lm
