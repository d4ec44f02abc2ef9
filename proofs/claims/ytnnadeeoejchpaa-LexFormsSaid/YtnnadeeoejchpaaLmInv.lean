/- What a value of the evaluator's says of the machine's. -/
import Derived.Test.YtnnadeeoejchpaaLmSem
set_option linter.all false
namespace Go.Lm
section
variable {ρ : Rho} {x : V} {X : Value}

theorem ofK_inj {k k' : IntKind} (h : ofK k = ofK k') : k = k' := by cases k <;> cases k' <;> first | rfl | (simp [ofK] at h)
theorem kOf_ofK (k : IntKind) : kOf (ofK k) = k := by cases k <;> rfl
theorem ofK_even (k : IntKind) : 16 ≤ ofK k ∧ ofK k ≤ 30 ∧ ofK k % 2 = 0 := by cases k <;> simp [ofK]
theorem maxK_ofK (k : IntKind) : (maxK (ofK k) : Int) = k.max := by cases k <;> rfl

theorem VR.lt (h : VR ρ x X) : x.t < 32 := by
  cases h <;> dsimp only [vF, vT, vInt, vStr, vPtr, vNilP, vSl, vNilS, vSx, vMap, vNilM, vFn, vNilF, vAgg, vTup, vYield] <;> try omega
  case int k n => have := ofK_even k; omega
  case neg k n => have := ofK_even k; omega

theorem VR.inv_int (h : VR ρ x X) {k : IntKind} (ht : x.t = ofK k) : X = .int k (.ofNat x.a) := by
  have hk := ofK_even k
  cases h <;> dsimp only [vF, vT, vInt, vStr, vPtr, vNilP, vSl, vNilS, vSx, vMap, vNilM, vFn, vNilF, vAgg, vTup, vYield] at ht <;> try (exfalso; omega)
  case int k' n => rw [ofK_inj ht]
  case neg k' n => have := ofK_even k'; exfalso; have : ofK k' + 1 = ofK k := ht; omega
theorem VR.inv_neg (h : VR ρ x X) {k : IntKind} (ht : x.t = ofK k + 1) : X = .int k (.negSucc x.a) := by
  have hk := ofK_even k
  cases h <;> dsimp only [vF, vT, vInt, vStr, vPtr, vNilP, vSl, vNilS, vSx, vMap, vNilM, vFn, vNilF, vAgg, vTup, vYield] at ht <;> try (exfalso; omega)
  case int k' n => have := ofK_even k'; exfalso; have : ofK k' = ofK k + 1 := ht; omega
  case neg k' n => have e : k' = k := ofK_inj (by omega); rw [e]
theorem VR.inv_any_int (h : VR ρ x X) (ht : 16 ≤ x.t) : ∃ k n, X = .int k n ∧ (x.t = ofK k ∧ n = .ofNat x.a ∨ x.t = ofK k + 1 ∧ n = .negSucc x.a) := by
  cases h <;> dsimp only [vF, vT, vInt, vStr, vPtr, vNilP, vSl, vNilS, vSx, vMap, vNilM, vFn, vNilF, vAgg, vTup, vYield] at ht <;> try (exfalso; omega)
  case int k n => exact ⟨k, _, rfl, .inl ⟨rfl, rfl⟩⟩
  case neg k n => exact ⟨k, _, rfl, .inr ⟨rfl, rfl⟩⟩

theorem VR.inv_f (h : VR ρ x X) (ht : x.t = 0) : X = .bool false := by
  cases h <;> dsimp only [vF, vT, vInt, vStr, vPtr, vNilP, vSl, vNilS, vSx, vMap, vNilM, vFn, vNilF, vAgg, vTup, vYield] at ht <;> try (exfalso; omega)
  case f => rfl
  all_goals (rename_i k n; have := ofK_even k; exfalso; omega)
theorem VR.inv_t (h : VR ρ x X) (ht : x.t = 1) : X = .bool true := by
  cases h <;> dsimp only [vF, vT, vInt, vStr, vPtr, vNilP, vSl, vNilS, vSx, vMap, vNilM, vFn, vNilF, vAgg, vTup, vYield] at ht <;> try (exfalso; omega)
  case t => rfl
  all_goals (rename_i k n; have := ofK_even k; exfalso; omega)
theorem VR.inv_str (h : VR ρ x X) (ht : x.t = 3) : ∃ s : ByteArray, X = .string s ∧ x.s = s.data.toList.map (·.toNat) := by
  cases h <;> dsimp only [vF, vT, vInt, vStr, vPtr, vNilP, vSl, vNilS, vSx, vMap, vNilM, vFn, vNilF, vAgg, vTup, vYield] at ht <;> try (exfalso; omega)
  case str s => exact ⟨s, rfl, rfl⟩
  all_goals (rename_i k n; have := ofK_even k; exfalso; omega)
theorem VR.inv_ptr (h : VR ρ x X) (ht : x.t = 4) : ∃ p, ρ x.a = some p ∧ X = .pointer (some ⟨p.blk, p.base + x.b, none⟩) := by
  cases h <;> dsimp only [vF, vT, vInt, vStr, vPtr, vNilP, vSl, vNilS, vSx, vMap, vNilM, vFn, vNilF, vAgg, vTup, vYield] at ht <;> try (exfalso; omega)
  case ptr p hp => exact ⟨_, hp, rfl⟩
  all_goals (rename_i k n; have := ofK_even k; exfalso; omega)
theorem VR.inv_nilp (h : VR ρ x X) (ht : x.t = 5) : X = .pointer none := by
  cases h <;> dsimp only [vF, vT, vInt, vStr, vPtr, vNilP, vSl, vNilS, vSx, vMap, vNilM, vFn, vNilF, vAgg, vTup, vYield] at ht <;> try (exfalso; omega)
  case nilp => rfl
  all_goals (rename_i k n; have := ofK_even k; exfalso; omega)
theorem VR.inv_sl (h : VR ρ x X) (ht : x.t = 6) : ∃ p A cap, ρ x.a = some p ∧ X = .slice (some A) x.c cap ∧ x.c ≤ cap ∧ x.d ≤ cap ∧ ((A = ⟨p.blk, p.base + x.b, none⟩ ∧ (p.own = true → p.esz ≠ 0 → p.base + x.b + cap * p.esz ≤ p.room)) ∨ (cap = 0 ∧ x.c = 0)) := by
  cases h <;> dsimp only [vF, vT, vInt, vStr, vPtr, vNilP, vSl, vNilS, vSx, vMap, vNilM, vFn, vNilF, vAgg, vTup, vYield] at ht <;> try (exfalso; omega)
  case sl cap p hp h1 h2 h3 => exact ⟨_, _, _, hp, rfl, h1, h2, .inl ⟨rfl, h3⟩⟩
  case sz a x hp => exact ⟨_, _, _, hp, rfl, Nat.le_refl _, Nat.le_refl _, .inr ⟨rfl, rfl⟩⟩
  all_goals (rename_i k n; have := ofK_even k; exfalso; omega)
theorem VR.inv_nils (h : VR ρ x X) (ht : x.t = 7) : X = .slice none 0 0 ∧ x.c = 0 ∧ x.d = 0 := by
  cases h <;> dsimp only [vF, vT, vInt, vStr, vPtr, vNilP, vSl, vNilS, vSx, vMap, vNilM, vFn, vNilF, vAgg, vTup, vYield] at ht <;> try (exfalso; omega)
  case nils => exact ⟨rfl, rfl, rfl⟩
  all_goals (rename_i k n; have := ofK_even k; exfalso; omega)
theorem VR.inv_sx (h : VR ρ x X) (ht : x.t = 8) : ∃ p A, ρ x.a = some p ∧ X = .slice (some A) x.c x.c ∧ (A = ⟨p.blk, p.base + x.b, none⟩ ∨ x.c = 0) := by
  cases h <;> dsimp only [vF, vT, vInt, vStr, vPtr, vNilP, vSl, vNilS, vSx, vMap, vNilM, vFn, vNilF, vAgg, vTup, vYield] at ht <;> try (exfalso; omega)
  case sx p hp => exact ⟨_, _, hp, rfl, .inl rfl⟩
  case sxz a x hp => exact ⟨_, _, hp, rfl, .inr rfl⟩
  all_goals (rename_i k n; have := ofK_even k; exfalso; omega)
theorem VR.inv_map (h : VR ρ x X) (ht : x.t = 9) : ∃ p, ρ x.a = some p ∧ p.own = true ∧ X = .map (some p.blk) := by
  cases h <;> dsimp only [vF, vT, vInt, vStr, vPtr, vNilP, vSl, vNilS, vSx, vMap, vNilM, vFn, vNilF, vAgg, vTup, vYield] at ht <;> try (exfalso; omega)
  case map p hp ho => exact ⟨_, hp, ho, rfl⟩
  all_goals (rename_i k n; have := ofK_even k; exfalso; omega)
theorem VR.inv_nilm (h : VR ρ x X) (ht : x.t = 10) : X = .map none := by
  cases h <;> dsimp only [vF, vT, vInt, vStr, vPtr, vNilP, vSl, vNilS, vSx, vMap, vNilM, vFn, vNilF, vAgg, vTup, vYield] at ht <;> try (exfalso; omega)
  case nilm => rfl
  all_goals (rename_i k n; have := ofK_even k; exfalso; omega)
theorem VR.inv_fn (h : VR ρ x X) (ht : x.t = 11) : ∃ l', VRL ρ x.l l' ∧ X = .func (.func x.a) #[] ⟨l'⟩ := by
  cases h <;> dsimp only [vF, vT, vInt, vStr, vPtr, vNilP, vSl, vNilS, vSx, vMap, vNilM, vFn, vNilF, vAgg, vTup, vYield] at ht <;> try (exfalso; omega)
  case fn hl => exact ⟨_, hl, rfl⟩
  all_goals (rename_i k n; have := ofK_even k; exfalso; omega)
theorem VR.inv_agg (h : VR ρ x X) (ht : x.t = 13) : ∃ l', VRL ρ x.l l' ∧ (∀ v ∈ l', atom v) ∧ X = .agg ⟨l'⟩ := by
  cases h <;> dsimp only [vF, vT, vInt, vStr, vPtr, vNilP, vSl, vNilS, vSx, vMap, vNilM, vFn, vNilF, vAgg, vTup, vYield] at ht <;> try (exfalso; omega)
  case agg h1 h2 => exact ⟨_, h1, h2, rfl⟩
  all_goals (rename_i k n; have := ofK_even k; exfalso; omega)
theorem VR.inv_tup (h : VR ρ x X) (ht : x.t = 14) : ∃ l', VRL ρ x.l l' ∧ X = .tuple ⟨l'⟩ := by
  cases h <;> dsimp only [vF, vT, vInt, vStr, vPtr, vNilP, vSl, vNilS, vSx, vMap, vNilM, vFn, vNilF, vAgg, vTup, vYield] at ht <;> try (exfalso; omega)
  case tup h1 => exact ⟨_, h1, rfl⟩
  all_goals (rename_i k n; have := ofK_even k; exfalso; omega)
theorem VR.inv_yield (h : VR ρ x X) (ht : x.t = 15) : ∃ p, ρ x.a = some p ∧ X = .func (.yield p.blk) #[] #[] := by
  cases h <;> dsimp only [vF, vT, vInt, vStr, vPtr, vNilP, vSl, vNilS, vSx, vMap, vNilM, vFn, vNilF, vAgg, vTup, vYield] at ht <;> try (exfalso; omega)
  case yield p hp => exact ⟨_, hp, rfl⟩
  all_goals (rename_i k n; have := ofK_even k; exfalso; omega)
end
end Go.Lm
