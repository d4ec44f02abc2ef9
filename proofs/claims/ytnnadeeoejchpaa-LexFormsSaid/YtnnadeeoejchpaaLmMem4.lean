/- append. -/
import Derived.Test.YtnnadeeoejchpaaLmMem3
set_option linter.all false
namespace Go.Lm
section
variable {P : Program} {lc : Lc}
variable {ρ : Rho} {s : St} {w : World} {k : K} {q : V × St} {call : Caller} {e : Env}
variable {t u : TypeId} {X Y : Operand} {ev : Operand → Value} {o : Oper} {x y : Od}

/-- a block that is no more -/
theorem Rel.kill (h : Rel lc ρ s w) (i : Nat) (hi : i < s.n) : Goes lc ρ s w ρ ⟨s.h.set i deadC, s.n⟩ w := by
  have hlive : ∀ j cj, Live ⟨s.h.set i deadC, s.n⟩ j cj → Live s j cj := fun j cj hj => by
    rcases live_set hj with ⟨_, rfl⟩ | ⟨_, x⟩
    · exact absurd rfl hj.2
    · exact x
  refine ⟨Rho.le_refl _, ⟨fun j cj hj => h.cell j cj (hlive j cj hj), h.scope, fun j cj hj => ?_, fun j m cj cm pj pm hj hm => h.inj j m cj cm pj pm (hlive _ _ hj) (hlive _ _ hm)⟩, Keep.refl _ _ _, fun r hr => ?_, fun _ _ h _ => h, Nat.le_refl _, fun r hr => ?_⟩
  · by_cases e : j = i
    · subst e; exact hi
    · simp only [T.get_set_ne _ _ (Ne.symm e)] at hj; exact h.dom _ _ hj
  · obtain ⟨j, cj, pj, hj, r⟩ := hr
    exact .inr ⟨j, cj, pj, hlive _ _ hj, r⟩
  · obtain ⟨j, cj, pj, hj, r⟩ := hr
    exact .inr ⟨j, cj, pj, hlive _ _ hj, r⟩

theorem growC_some {m : Nat} {fl : List V} {ct : T V} {size esz0 : Nat} {es : List (V × V)} {ps : List Nat} {b L esz : Nat} {new : List V} {f : Cell → Res} (hwf : m = 0 → fl.length = size) (hfit : b + L ≤ size)
    (h : growC m fl ct b (b + L) (L + new.length) esz new f = some q) :
    ∃ c', f c' = some q ∧ c'.t = 0 ∧ c'.size = L + new.length ∧ c'.esz = esz ∧ (c'.m = 0 → c'.fl.length = c'.size) ∧
      ∀ j v, c'.val j = some v → (j < L ∧ (⟨0, m, fl, ct, size, esz0, es, ps⟩ : Cell).val (b + j) = some v) ∨ (L ≤ j ∧ new[j - L]? = some v) := by
  unfold growC at h
  have hsub : Nat.sub (b + L) b = L := by show b + L - b = L; omega
  rw [hsub] at h
  -- a trie of two rows
  have two : ∀ (old : List V), old.length = L → ∀ j v, (T.setL new (T.setL old .nl 0) L).get j = some v → j < L ∧ old[j]? = some v ∨ L ≤ j ∧ new[j - L]? = some v := fun old hold j v hj => by
    rw [T.get_setL] at hj
    by_cases e1 : L ≤ j ∧ j < L + new.length
    · rw [if_pos e1] at hj; exact .inr ⟨e1.1, hj⟩
    · rw [if_neg e1, T.get_setL] at hj
      by_cases e2 : 0 ≤ j ∧ j < 0 + old.length
      · rw [if_pos e2] at hj; exact .inl ⟨by omega, by simpa using hj⟩
      · rw [if_neg e2, T.get_nl] at hj; cases hj
  by_cases h1 : m = 0
  · subst h1
    rw [show Nat.beq 0 0 = true from rfl, bs_true] at h
    have hwf := hwf rfl
    rw [dropK_eq, takeK_eq] at h
    have hlen : L ≤ (fl.drop b).length := by rw [List.length_drop]; omega
    rw [if_pos hlen] at h
    have hold : ((fl.drop b).take L).length = L := by rw [List.length_take]; omega
    have hval : ∀ j v, j < L → ((fl.drop b).take L)[j]? = some v → (⟨0, 0, fl, ct, size, esz0, es, ps⟩ : Cell).val (b + j) = some v := fun j v hj hv => by
      simp only [Cell.val, if_true]
      rw [List.getElem?_take, if_pos hj, List.getElem?_drop] at hv; exact hv
    rcases bs_some.1 h with ⟨_, h⟩ | ⟨_, h⟩
    · rw [catK_eq] at h
      refine ⟨_, h, rfl, rfl, rfl, fun _ => by simp only [List.length_append, hold], fun j v hj => ?_⟩
      simp only [Cell.val, if_true] at hj
      by_cases e1 : j < L
      · rw [List.getElem?_append_left (by omega)] at hj; exact .inl ⟨e1, hval j v e1 hj⟩
      · rw [List.getElem?_append_right (by omega), hold] at hj; exact .inr ⟨by omega, hj⟩
    · rw [setLK_eq, setLK_eq] at h
      refine ⟨_, h, rfl, rfl, rfl, (fun hm => by cases hm), fun j v hj => ?_⟩
      simp only [Cell.val, if_neg (show ¬ (1 : Nat) = 0 by omega)] at hj
      split at hj
      · rcases two _ hold j v hj with ⟨a, b⟩ | r
        · exact .inl ⟨a, hval j v a b⟩
        · exact .inr r
      · cases hj
  · rw [beq_f.2 h1, bs_false] at h
    rcases bs_some.1 h with ⟨h2, h⟩ | ⟨h2, h⟩
    · have h2 : b = 0 := beq_t.1 h2
      subst h2
      rw [setLK_eq] at h
      refine ⟨_, h, rfl, rfl, rfl, (fun hm => by cases hm), fun j v hj => ?_⟩
      simp only [Cell.val, if_neg (show ¬ (1 : Nat) = 0 by omega)] at hj
      split at hj
      · rw [T.get_setL] at hj
        simp only [Nat.zero_add] at hj
        by_cases e1 : L ≤ j ∧ j < L + new.length
        · rw [if_pos e1] at hj; exact .inr ⟨e1.1, hj⟩
        · rw [if_neg e1] at hj
          have e2 : j < L := by omega
          refine .inl ⟨e2, ?_⟩
          simp only [Cell.val, if_neg h1, Nat.zero_add]
          rw [if_pos (by omega)]; exact hj
      · cases hj
    · rw [getL_eq] at h
      obtain ⟨old, hold, h⟩ := bind_some.1 h
      obtain ⟨h3, h4⟩ := (getO_spec _ _ _ _).1 hold
      rw [setLK_eq, setLK_eq] at h
      refine ⟨_, h, rfl, rfl, rfl, (fun hm => by cases hm), fun j v hj => ?_⟩
      simp only [Cell.val, if_neg (show ¬ (1 : Nat) = 0 by omega)] at hj
      split at hj
      · rcases two _ h3 j v hj with ⟨a, b⟩ | r
        · refine .inl ⟨a, ?_⟩
          simp only [Cell.val, if_neg h1]
          rw [if_pos (by omega), h4 j a]; exact b
        · exact .inr r
      · cases hj

/-! the machine's append -/
/-- what append's second argument is: n elements, these cells -/
structure Arg (P : Program) (w : World) (u : TypeId) (z : Value) (size n : Nat) (x : Value) (new : List Value) : Prop where
  room : ∀ (t ty e : TypeId) (i : TypeInfo), P.underlying t = some (.slice e) → P.info? e = some i → i.size = size → i.zero = some z → ∀ (base : Option Addr) (sLen sCap : Nat), sLen + n ≤ sCap → i.bytes * n ≤ 2 ^ 40 → n ≤ 2 ^ 40 →
    (Builtin.append_ #[t, u] ty #[.slice base sLen sCap, x]).run P w = (match base with
      | some a => (do storeCells (a.add (sLen * size)) new; pure (.slice base (sLen + n) sCap) : Sem Value).run P w
      | none => .ok (.slice base (sLen + n) sCap) w)
  grow : ∀ (t ty e : TypeId) (i : TypeInfo), P.underlying t = some (.slice e) → P.info? e = some i → i.size = size → i.zero = some z → ∀ (base : Option Addr) (sLen sCap : Nat) (olds : Array Value), sCap < sLen + n → (sLen + n) * i.bytes ≤ 2 ^ 40 → sLen + n ≤ 2 ^ 40 →
    (Builtin.firstCells size sLen (.slice base sLen sCap)).run P w.drew = .ok olds w.drew →
    (Builtin.append_ #[t, u] ty #[.slice base sLen sCap, x]).run P w = .ok (.slice (some ⟨w.heap.size, 0, none⟩) (sLen + n) (grownCap w (sLen + n) sCap e))
        (w.drew.alloc (.cells (olds ++ new.toArray ++ Builtin.zeroCells z.cells (grownCap w (sLen + n) sCap e - (sLen + n))) e))

theorem Arg.slice {el : TypeId} {z : Value} {size n c : Nat} {base : Option Addr} {new : List Value} (hu : P.underlying u = some (.slice el))
    (h : ∀ w' : World, w'.heap = w.heap → (Builtin.firstCells size n (.slice base n c)).run P w' = .ok new.toArray w') : Arg P w u z size n (.slice base n c) new where
  room := fun t ty e i ht hi hs hz base' sLen sCap hr hb hb2 => by
    subst hs
    have hf := h w rfl
    cases base' <;> simp [Builtin.append_, run_underlying ht, run_underlying hu, sizeOf, typeInfo, hi, Builtin.lenOf, hr, hf]
  grow := fun t ty e i ht hi hs hz base' sLen sCap olds hg hb hb2 hold => by
    subst hs
    have hn : ¬ (sLen + n ≤ sCap) := by omega
    have h63' : ¬ (9223372036854775807 < ((sLen : Int) + (n : Int))) := by omega
    have h48' : ¬ (281474976710656 < Builtin.nextslicecap (sLen + n) sCap * i.bytes) := by have := growslice_fits hg (bytes := i.bytes) (by omega); omega
    have hf := h w.drew rfl
    simp [Builtin.append_, run_underlying ht, run_underlying hu, sizeOf, typeInfo, zeroValue, hi, hz, Builtin.lenOf, hn, h63', h48', Question.forced, hf, hold, newRow, grownCap]
end
end Go.Lm
