/- The evaluator is sound. -/
import Derived.Test.YtnnadeeoejchpaaLmCode3
import Derived.Conc.MuLone
set_option linter.all false
namespace Go.Lm

/-- a function without a body -/
def ExternOk (P : Program) (lc : Lc) (i : Nat) (f : Fn) : Prop :=
  ∀ (call : Caller) (args : List V) (s : St) (k : K) (q : V × St) (ρ : Rho) (w : World) (ARGS : List Value), f call args s k = some q → Rel lc ρ s w → VRL ρ args ARGS →
    (∀ l, ARGS[0]? ≠ some (.func (.yield l) #[] #[])) ∧ ∃ rv w', (callFunc i ⟨ARGS⟩).run P w = .ok (.value rv) w' ∧ ∃ v s' ρ', k v s' = some q ∧ Goes lc ρ s w ρ' s' w' ∧ VR ρ' v rv

structure PrgOk (P : Program) (lc : Lc) (p : Prg) : Prop where
  fns : ∀ i f, p.fns.get i = some f → (∃ fn c D m, P.funcs[i]? = some fn ∧ (fn.name == "runtime.NumGoroutine") = false ∧ fn.body = some c ∧ f = compFn P fn D m ∧
    ∀ x ∈ (loopsOf c m).2, lc.f x.1 = some (x.2.1, x.2.2, fn.ntmps) ∧ lc.D x.1 = D) ∨ ExternOk P lc i f
  bodies : ∀ b x, p.bodies.get b = some x → ∃ as bo N D m m2, lc.f b = some (as, bo, N) ∧ lc.D b = D ∧ N ≤ 1000000 ∧ x = ((compCode P N D as m).1, (compCode P N D bo m2).1) ∧ (loopsOf as m).2 = [] ∧ (loopsOf bo m2).2 = []

section
variable {P : Program} {lc : Lc} {p : Prg}
variable {call : Caller} {q : V × St}

def AllDraws (P : Program) (lc : Lc) : Prop := ∀ (F : Fence) (n : Nat) (call : Caller), IsWide F → CallerOk P lc call → DrawsOk P lc F n call

theorem fn_ok {fn : Func} {c : Code} {D m i : Nat} {args : List V} {ARGS : List Value} {s : St} {k : K} {ρ : Rho} {w : World} (hDr : AllDraws P lc) (hC : CallerOk P lc call) (hf : P.funcs[i]? = some fn) (hb : fn.body = some c)
    (hl : ∀ x ∈ (loopsOf c m).2, lc.f x.1 = some (x.2.1, x.2.2, fn.ntmps) ∧ lc.D x.1 = D) (hR : Rel lc ρ s w) (hA : VRL ρ args ARGS) (h : compFn P fn D m call args s k = some q) :
    Calls P i ⟨ARGS⟩ w (onlyRet fun rv w' => ∃ v s' ρ', k v s' = some q ∧ Goes lc ρ s w ρ' s' w' ∧ VR ρ' v rv) := by
  unfold compFn at h
  rw [hb] at h
  dsimp only at h
  rw [ifB_eq] at h
  by_cases hc : ((List.range (fn.params.size + fn.nfree)).all (fun t => !D.testBit t) && decide (fn.params.size + fn.nfree ≤ fn.ntmps) && decide (fn.ntmps ≤ 1000000)) = true
  rotate_left
  · rw [if_neg hc] at h; cases h
  rw [if_pos hc] at h
  simp only [Bool.and_eq_true, decide_eq_true_eq] at hc
  obtain ⟨⟨hc1, hc2⟩, hc3⟩ := hc
  obtain ⟨hlen, h⟩ := chk_some.1 h
  have hlen := beq_t.1 hlen
  rw [setLK_eq] at h
  have hAl : ARGS.length = fn.params.size + fn.nfree := by rw [← hA.length, hlen]
  refine (callsIn_wide (n := 0)).1 (callsIn_of_wp_marks hf hb trivial ?_)
  have hsz : (⟨ARGS⟩ ++ Array.replicate (fn.ntmps - (⟨ARGS⟩ : Array Value).size) undef : Array Value).size = fn.ntmps := by
    rw [Array.size_append, Array.size_replicate]
    have : (⟨ARGS⟩ : Array Value).size = ARGS.length := rfl
    omega
  refine code_ok (h0 := w.heap.size) hc3 (.inl rfl) hC (hDr _ _ _ (.inl rfl) hC) c m (.inl rfl) hl _ s ρ w _ _ q _ h hR ?_ ?_ hsz trivial (Nat.le_refl _) ?_
  · intro t v hv
    rw [T.get_setL] at hv
    by_cases e1 : 0 ≤ t ∧ t < 0 + args.length
    · rw [if_pos e1] at hv
      obtain ⟨r, h1, h2⟩ := hA.get (t - 0) v hv
      have : (⟨ARGS⟩ ++ Array.replicate (fn.ntmps - (⟨ARGS⟩ : Array Value).size) undef : Array Value).getD t undef = r := by
        rw [Array.getD_eq_getD_getElem?, Array.getElem?_append_left (by show t < ARGS.length; rw [← hA.length]; omega)]
        have : (⟨ARGS⟩ : Array Value)[t]? = some r := by simpa using h1
        rw [this]; rfl
      rw [this]; exact h2
    · rw [if_neg e1, T.get_nl] at hv; cases hv
  · intro t ht
    rw [T.get_setL]
    by_cases e1 : 0 ≤ t ∧ t < 0 + args.length
    · have := List.all_eq_true.1 hc1 t (List.mem_range.2 (by omega))
      rw [ht] at this; cases this
    · rw [if_neg e1, T.get_nl]
  · intro x e' s' ρ' w' a' hk hg hE' hD' hN' hM'
    have fin : ∀ {s'' : St} {ρ'' : Rho} {w'' : World}, Goes lc ρ s w ρ'' s'' w'' → EnvR ρ'' e' a' → resL (fn.results.toList.map (compRes P)) e' s'' (fun l => k (oneOf l) s'') = some q →
        ∃ v, (results fn a'.tmps).run P w'' = .ok v w'' ∧ onlyRet (fun rv w' => ∃ v s' ρ', k v s' = some q ∧ Goes lc ρ s w ρ' s' w' ∧ VR ρ' v rv) (.returned v) w'' := fun hg hE hk => by
      obtain ⟨v, rv, hk, hv, hrun⟩ := results_ok hg.rel hE hk
      exact ⟨rv, hrun, v, _, _, hk, hg, hv⟩
    have lv : resL (fn.results.toList.map (compRes P)) e' s' (fun l => k (oneOf l) s') = some q → LeavesInM Fence.wide 0 P fn a'.tmps (onlyRet fun rv w' => ∃ v s' ρ', k v s' = some q ∧ Goes lc ρ s w ρ' s' w' ∧ VR ρ' v rv) a'.defers .returning w' := fun hk =>
      leaves_ok rfl (fun w'' hg'' => fin hg'' hE' hk) a'.defers w' hg hM'
    rcases exr_some hk with ⟨rfl, hk⟩ | ⟨j, rfl, hk⟩ | ⟨rfl, hk⟩
    · exact lv hk
    · cases hk
    · exact lv hk
end
end Go.Lm
