/- A region, walked. -/
import Derived.Test.YtnnadeeoejchpaaLmReg
set_option linter.all false
namespace Go.Lm
section
variable {P : Program} {lc : Lc}
variable {F : Fence} {n : Nat} {ops : Array Oper} {Q : Exit → Act → World → Prop}

/-- every operation that is compiled is right in the walk -/
def OpsOk (P : Program) (lc : Lc) (F : Fence) (n : Nat) (call : Caller) : Prop :=
  ∀ (o : Oper) (A : Al) (e : Env) (s : St) (ρ : Rho) (w : World) (a : Act) (k : K) (q : V × St) (next : Act → World → Prop) (Q : Exit → Act → World → Prop),
    Rel lc ρ s w → EnvR ρ e a → AlOk ρ A a → compOp P A o call e s k = some q →
    (∀ v s' ρ' w' rv, k v s' = some q → Goes lc ρ s w ρ' s' w' → VR ρ' v rv → next (a.put o.dst rv) w') → o.wpIn F n P a w next Q

theorem EnvR.put_none {ρ : Rho} {e : Env} {a : Act} {d : Nat} {v : Value} (h : EnvR ρ e a) (hd : d < a.tmps.size) (hn : e.get d = none) : EnvR ρ e (a.put (some d) v) := fun t u hu => by
  rw [put_getD a d t v hd]
  by_cases e1 : t = d
  · subst e1; rw [hn] at hu; cases hu
  · rw [if_neg e1]; exact h t u hu
theorem EnvR.put {ρ : Rho} {e : Env} {a : Act} {d : Nat} {v : V} {rv : Value} (h : EnvR ρ e a) (hd : d < a.tmps.size) (hv : VR ρ v rv) : EnvR ρ (e.set d v) (a.put (some d) rv) := fun t u hu => by
  rw [put_getD a d t rv hd]
  rw [T.get_set] at hu
  by_cases e1 : t = d
  · subst e1; simp at hu; subst hu; simpa using hv
  · rw [if_neg (Ne.symm e1)] at hu; rw [if_neg e1]; exact h t u hu
theorem NoD.set {D d : Nat} {e : Env} {v : V} (h : NoD D e) (hd : D.testBit d = false) : NoD D (e.set d v) := fun t ht => by
  rw [T.get_set]
  by_cases e1 : d = t
  · subst e1; rw [hd] at ht; cases ht
  · rw [if_neg e1]; exact h t ht

theorem want_some {ρ : Rho} {v : V} {X : Value} {b : Bool} {y nn : Res} {q : V × St} (hv : VR ρ v X) (h : want v (bN1 b) y nn = some q) : (X = .bool b ∧ y = some q) ∨ ((∀ c, X = .bool c → c ≠ b) ∧ nn = some q) := by
  unfold want at h
  rcases bs_some.1 h with ⟨h1, h⟩ | ⟨h1, h⟩
  · have hX := bool_t hv (ble_t.1 h1)
    have hle := ble_t.1 h1
    rcases bs_some.1 h with ⟨h2, h⟩ | ⟨h2, h⟩
    · refine .inl ⟨?_, h⟩
      have h2 := beq_t.1 h2
      rw [hX, h2]; cases b <;> rfl
    · refine .inr ⟨fun c hc => ?_, h⟩
      have h2 := beq_f.1 h2
      rw [hX] at hc; cases hc
      intro e; subst e
      apply h2
      have : v.t = 0 ∨ v.t = 1 := by omega
      rcases this with h | h <;> rw [h] <;> rfl
  · obtain ⟨h2, h⟩ := chk_some.1 h
    refine .inr ⟨fun c hc => ?_, h⟩
    obtain ⟨l, _, hX⟩ := hv.inv_tup (beq_t.1 h2)
    rw [hX] at hc; cases hc
end
end Go.Lm
