/- Blocks: read, written, moved. -/
import Derived.Test.YtnnadeeoejchpaaLmOps5
set_option linter.all false
namespace Go.Lm
section
variable {P : Program} {lc : Lc}
variable {ρ : Rho} {s : St} {w : World} {k : K} {q : V × St} {call : Caller} {e : Env}

theorem cell_val (hR : Rel lc ρ s w) {i j : Nat} {p : Pl} {v : V} (hp : ρ i = some p) (ht : (s.at i).t ≤ 1) (hv : (s.at i).val j = some v) :
    ∃ r, w.cell? ⟨p.blk, p.base + j, none⟩ = some r ∧ VR ρ v r ∧ atom r := by
  have hl : Live s i (s.at i) := at_live rfl (by omega)
  obtain ⟨p', hp', h0, h1, _⟩ := hR.cell i _ hl
  rw [hp] at hp'; cases hp'
  have : (s.at i).t = 0 ∨ (s.at i).t = 1 := by omega
  rcases this with h2 | h2
  · obtain ⟨_, _, _, cs, ty, x, _, _, u⟩ := h0 h2
    obtain ⟨r, h1, h2, h3⟩ := u j v hv
    exact ⟨r, by simp [World.cell?, x, h1], h2, h3⟩
  · exact (h1 h2).2.2 j v hv

theorem loadL_some {c : Cell} {o n : Nat} {f : List V → Res} (h : loadL c o n f = some q) : ∃ l, f l = some q ∧ c.t ≤ 1 ∧ l.length = n ∧ ∀ j, j < n → c.val (o + j) = l[j]? := by
  cases c with
  | mk t m fl ct size esz es ps =>
    have h : chk (Nat.ble t 1) (bs (Nat.beq m 0) (dropK o fl fun l => takeK n l f) (chk (Nat.ble (o + n) size) (getL n ct o f))) = some q := h
    obtain ⟨h1, h⟩ := chk_some.1 h
    rcases bs_some.1 h with ⟨h2, h⟩ | ⟨h2, h⟩
    · rw [dropK_eq, takeK_eq] at h
      by_cases h3 : n ≤ (fl.drop o).length
      · rw [if_pos h3] at h
        refine ⟨_, h, ble_t.1 h1, by rw [List.length_take]; omega, fun j hj => ?_⟩
        simp only [Cell.val, beq_t.1 h2, if_true]
        rw [List.getElem?_take, if_pos hj, List.getElem?_drop]
      · rw [if_neg h3] at h; cases h
    · obtain ⟨h3, h⟩ := chk_some.1 h
      rw [getL_eq] at h
      obtain ⟨l, hl, h⟩ := bind_some.1 h
      obtain ⟨h4, h5⟩ := (getO_spec _ _ _ _).1 hl
      refine ⟨l, h, ble_t.1 h1, h4, fun j hj => ?_⟩
      have h3 := ble_t.1 h3
      simp only [Cell.val, if_neg (beq_f.1 h2)]
      rw [if_pos (by omega)]; exact h5 j hj

/-- a row of cells of a block, in the machine -/
theorem cells_val (hR : Rel lc ρ s w) {i o n : Nat} {p : Pl} {l : List V} (hp : ρ i = some p) (ht : (s.at i).t ≤ 1) (hl : l.length = n) (h : ∀ j, j < n → (s.at i).val (o + j) = l[j]?) :
    ∃ l', VRL ρ l l' ∧ (∀ v ∈ l', atom v) ∧ ∀ j v, l'[j]? = some v → w.cell? ⟨p.blk, p.base + o + j, none⟩ = some v := by
  subst hl
  induction l generalizing o with
  | nil => exact ⟨[], .nil, by simp, by simp⟩
  | cons v l ih =>
    have h0 := h 0 (by simp)
    obtain ⟨r, h1, h2, h3⟩ := cell_val hR hp ht (v := v) (j := o) (by simpa using h0)
    obtain ⟨l', h4, h5, h6⟩ := ih (o := o + 1) fun j hj => by
      have := h (j + 1) (by simpa using hj)
      rw [show o + 1 + j = o + (j + 1) by omega, this]; simp
    refine ⟨r :: l', .cons h2 h4, ?_, fun j x hx => ?_⟩
    · intro x hx
      rcases List.mem_cons.1 hx with rfl | hx
      · exact h3
      · exact h5 x hx
    · cases j with
      | zero => simp at hx; subst hx; simpa using h1
      | succ j => have := h6 j x (by simpa using hx); rw [show p.base + o + (j + 1) = p.base + (o + 1) + j by omega]; exact this

theorem storeL_some {a o : Nat} {vs : List V} {f : St → Res} (h : storeL s a o vs f = some q) (hw : (s.at a).m = 0 → (s.at a).fl.length = (s.at a).size) :
    ∃ c', f ⟨s.h.set a c', s.n⟩ = some q ∧ (s.at a).t = 0 ∧ c'.t = 0 ∧ c'.size = (s.at a).size ∧ c'.esz = (s.at a).esz ∧ (c'.m = 0 → c'.fl.length = c'.size) ∧ o + vs.length ≤ c'.size ∧
      ∀ j, c'.val j = if o ≤ j ∧ j < o + vs.length then vs[j - o]? else (s.at a).val j := by
  unfold storeL at h
  generalize s.at a = c at h hw
  cases c with
  | mk t m fl ct size esz es ps =>
    have h : chk (Nat.beq t 0) (bs (Nat.beq m 0) (overK o fl vs fun fl => s.h.setK a ⟨0, 0, fl, .nl, size, esz, [], []⟩ fun h => f ⟨h, s.n⟩)
      (chk (Nat.ble (o + vs.length) size) (T.setLK vs ct o fun c => s.h.setK a ⟨0, 1, [], c, size, esz, [], []⟩ fun h => f ⟨h, s.n⟩))) = some q := h
    obtain ⟨h1, h⟩ := chk_some.1 h
    rcases bs_some.1 h with ⟨h2, h⟩ | ⟨h2, h⟩
    · have h2 : m = 0 := beq_t.1 h2
      subst h2
      have hw : fl.length = size := hw rfl
      rw [overK_eq] at h
      by_cases h3 : o + vs.length ≤ fl.length ∨ vs = [] ∧ o ≤ fl.length
      · rw [if_pos h3, setK_eq] at h
        have h3 : o + vs.length ≤ fl.length := by rcases h3 with h3 | ⟨rfl, h3⟩ <;> simpa using h3
        refine ⟨_, h, beq_t.1 h1, rfl, rfl, rfl, fun _ => ?_, by rw [← hw]; exact h3, fun j => ?_⟩
        · simp only [List.length_append, List.length_take, List.length_drop]; omega
        · simp only [Cell.val, if_true]
          by_cases e1 : j < o
          · rw [if_neg (by omega), List.append_assoc, List.getElem?_append_left (by rw [List.length_take]; omega), List.getElem?_take, if_pos e1]
          · by_cases e2 : j < o + vs.length
            · rw [if_pos (by omega), List.append_assoc, List.getElem?_append_right (by rw [List.length_take]; omega), List.length_take, List.getElem?_append_left (by omega), Nat.min_eq_left (by omega)]
            · rw [if_neg (by omega), List.getElem?_append_right (by rw [List.length_append, List.length_take]; omega), List.length_append, List.length_take, List.getElem?_drop, Nat.min_eq_left (by omega)]
              congr 1; omega
      · rw [if_neg h3] at h; cases h
    · obtain ⟨h3, h⟩ := chk_some.1 h
      rw [setLK_eq, setK_eq] at h
      have h3 := ble_t.1 h3
      refine ⟨_, h, beq_t.1 h1, rfl, rfl, rfl, (fun hm => by cases hm), h3, fun j => ?_⟩
      simp only [Cell.val, if_neg (beq_f.1 h2), if_neg (show ¬ (1 : Nat) = 0 by omega)]
      rw [T.get_setL]
      by_cases e1 : o ≤ j ∧ j < o + vs.length
      · rw [if_pos e1, if_pos (by omega), if_pos e1]
      · rw [if_neg e1, if_neg e1]

theorem live_set {i : Nat} {c : Cell} {n j : Nat} {cj : Cell} (h : Live ⟨s.h.set i c, n⟩ j cj) : (j = i ∧ cj = c) ∨ (j ≠ i ∧ Live s j cj) := by
  by_cases e : j = i
  · subst e; have := h.1; simp at this; exact .inl ⟨rfl, this.symm⟩
  · have := h.1; simp only [T.get_set_ne _ _ (Ne.symm e)] at this; exact .inr ⟨e, this, h.2⟩

/-- an owned block is changed -/
theorem Rel.setOwn (h : Rel lc ρ s w) {i : Nat} {c c' : Cell} {p : Pl} {w' : World} (hl : Live s i c) (hp : ρ i = some p) (ho : p.own = true) (hc' : c'.t ≠ 4)
    (hsz : w'.heap.size = w.heap.size) (hoth : ∀ r, r ≠ p.blk → w'.heap[r]? = w.heap[r]?) (hos : w'.os = w.os) (htp : w'.tape = w.tape) (hout : w'.output = w.output)
    (hcr : CellR lc ρ c' p w') : Goes lc ρ s w ρ ⟨s.h.set i c', s.n⟩ w' := by
  refine ⟨Rho.le_refl _, ⟨fun j cj hj => ?_, fun j q hq => h.scope j q hq, fun j cj hj => ?_, fun j m cj cm pj pm hj hm hpj hpm hne hoj => ?_⟩, ⟨by omega, fun r hr hno => ?_, hos, htp, hout⟩, fun r hr => ?_, fun j q hq _ => hq, Nat.le_refl _, fun r hr => ?_⟩
  · rcases live_set hj with ⟨rfl, rfl⟩ | ⟨hne, hlj⟩
    · exact ⟨p, hp, hcr⟩
    · obtain ⟨pj, hpj, hr⟩ := h.cell j cj hlj
      exact ⟨pj, hpj, hr.keep lc (Rho.le_refl _) (hoth _ (h.inj i j c cj p pj hl hlj hp hpj (Ne.symm hne) ho))⟩
  · by_cases e : j = i
    · subst e; exact h.dom _ _ hl.1
    · simp only [T.get_set_ne _ _ (Ne.symm e)] at hj; exact h.dom _ _ hj
  · have h1 : ∃ cj', Live s j cj' := by rcases live_set hj with ⟨rfl, _⟩ | ⟨_, x⟩; exact ⟨_, hl⟩; exact ⟨_, x⟩
    have h2 : ∃ cm', Live s m cm' := by rcases live_set hm with ⟨rfl, _⟩ | ⟨_, x⟩; exact ⟨_, hl⟩; exact ⟨_, x⟩
    obtain ⟨_, h1⟩ := h1; obtain ⟨_, h2⟩ := h2
    exact h.inj j m _ _ pj pm h1 h2 hpj hpm hne hoj
  · exact hoth r fun e => hno ⟨i, c, p, hl, hp, ho, e.symm⟩
  · obtain ⟨j, cj, pj, hj, hpj, hoj, rfl⟩ := hr
    rcases live_set hj with ⟨rfl, _⟩ | ⟨_, hlj⟩
    · exact .inr ⟨_, c, pj, hl, hpj, hoj, rfl⟩
    · exact .inr ⟨j, cj, pj, hlj, hpj, hoj, rfl⟩
  · obtain ⟨j, cj, pj, hj, hpj, rfl⟩ := hr
    rcases live_set hj with ⟨rfl, _⟩ | ⟨_, hlj⟩
    · exact .inr ⟨_, c, pj, hl, hpj, rfl⟩
    · exact .inr ⟨j, cj, pj, hlj, hpj, rfl⟩

/-- an owned block is moved: what stood there is dead, its place is a new block's -/
theorem Rel.move (h : Rel lc ρ s w) {i : Nat} {c c' : Cell} {p p' : Pl} {w' : World} (hl : Live s i c) (hp : ρ i = some p) (ho : p.own = true) (hb : p'.blk = p.blk) (ho' : p'.own = true)
    (hsz : w'.heap.size = w.heap.size) (hoth : ∀ r, r ≠ p.blk → w'.heap[r]? = w.heap[r]?) (hos : w'.os = w.os) (htp : w'.tape = w.tape) (hout : w'.output = w.output)
    (hcr : CellR lc (ρ.put s.n p') c' p' w') : Goes lc ρ s w (ρ.put s.n p') ⟨(s.h.set i deadC).set s.n c', s.n + 1⟩ w' := by
  have hn : ρ s.n = none := by
    cases e : ρ s.n with
    | none => rfl
    | some q => exact absurd (h.scope _ _ e) (by omega)
  have hle := Rho.le_put p' hn
  have hput : ∀ i, i ≠ s.n → ρ.put s.n p' i = ρ i := fun i hi => by simp [Rho.put, hi]
  have hin : i ≠ s.n := fun e => by have := h.dom _ _ hl.1; omega
  have hlive : ∀ j cj, Live ⟨(s.h.set i deadC).set s.n c', s.n + 1⟩ j cj → (j = s.n ∧ cj = c') ∨ (j ≠ s.n ∧ j ≠ i ∧ Live s j cj) := fun j cj hj => by
    rcases live_set (s := ⟨s.h.set i deadC, s.n⟩) hj with x | ⟨hne, x⟩
    · exact .inl x
    · rcases live_set x with ⟨_, rfl⟩ | ⟨hne2, x⟩
      · exact absurd rfl x.2
      · exact .inr ⟨hne, hne2, x⟩
  refine ⟨hle, ⟨fun j cj hj => ?_, fun j q hq => ?_, fun j cj hj => ?_, fun j m cj cm pj pm hj hm hpj hpm hne hoj => ?_⟩, ⟨by omega, fun r hr hno => ?_, hos, htp, hout⟩, fun r hr => ?_, fun j q hq hj => ?_, Nat.le_succ _, fun r hr => ?_⟩
  · rcases hlive j cj hj with ⟨rfl, rfl⟩ | ⟨hne, hne2, hlj⟩
    · exact ⟨p', Rho.put_self _ _ _, hcr⟩
    · obtain ⟨pj, hpj, hr⟩ := h.cell j cj hlj
      exact ⟨pj, (hput j hne).trans hpj, hr.keep lc hle (hoth _ (h.inj i j c cj p pj hl hlj hp hpj (Ne.symm hne2) ho))⟩
  · by_cases e : j = s.n
    · subst e; exact Nat.lt_succ_self _
    · rw [hput j e] at hq; exact Nat.lt_succ_of_lt (h.scope _ _ hq)
  · by_cases e : j = s.n
    · subst e; exact Nat.lt_succ_self _
    · simp only [T.get_set_ne _ _ (Ne.symm e)] at hj
      by_cases e2 : j = i
      · subst e2; exact Nat.lt_succ_of_lt (h.dom _ _ hl.1)
      · rw [T.get_set_ne _ _ (Ne.symm e2)] at hj; exact Nat.lt_succ_of_lt (h.dom _ _ hj)
  · rcases hlive j cj hj with ⟨rfl, rfl⟩ | ⟨hj1, hj2, hlj⟩
    · rcases hlive m cm hm with ⟨rfl, rfl⟩ | ⟨hm1, hm2, hlm⟩
      · exact absurd rfl hne
      · rw [Rho.put_self] at hpj; cases hpj
        rw [hput m hm1] at hpm
        rw [hb]; exact h.inj i m c cm p pm hl hlm hp hpm (Ne.symm hm2) ho
    · rw [hput j hj1] at hpj
      rcases hlive m cm hm with ⟨rfl, rfl⟩ | ⟨hm1, hm2, hlm⟩
      · rw [Rho.put_self] at hpm; cases hpm
        rw [hb]; exact h.inj j i cj c pj p hlj hl hpj hp hj2 hoj
      · rw [hput m hm1] at hpm
        exact h.inj j m cj cm pj pm hlj hlm hpj hpm hne hoj
  · exact hoth r fun e => hno ⟨i, c, p, hl, hp, ho, e.symm⟩
  · obtain ⟨j, cj, pj, hj, hpj, hoj, rfl⟩ := hr
    rcases hlive j cj hj with ⟨rfl, rfl⟩ | ⟨hne, _, hlj⟩
    · rw [Rho.put_self] at hpj; cases hpj
      exact .inr ⟨i, c, p, hl, hp, ho, hb.symm⟩
    · rw [hput j hne] at hpj; exact .inr ⟨j, cj, pj, hlj, hpj, hoj, rfl⟩
  · rw [hput j (by omega)] at hq; exact hq
  · obtain ⟨j, cj, pj, hj, hpj, rfl⟩ := hr
    rcases hlive j cj hj with ⟨rfl, rfl⟩ | ⟨hne, _, hlj⟩
    · rw [Rho.put_self] at hpj; cases hpj
      exact .inr ⟨i, c, p, hl, hp, hb.symm⟩
    · rw [hput j hne] at hpj; exact .inr ⟨j, cj, pj, hlj, hpj, rfl⟩
end
end Go.Lm
