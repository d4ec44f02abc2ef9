/- A region that draws: the evaluator's states, told of. -/
import Derived.Test.YtnnadeeoejchpaaLmDraw2
set_option linter.all false
namespace Go.Lm

structure Trace (call : Caller) (l : List DI) (st : Nat → DS) (val : Nat → V) (kd : Nat → Nat) : Prop where
  step : ∀ i x, l[i]? = some x → StepOk call x i (st i) (st (i + 1)) (val i) (kd i)
  sides0 : (st 0).sides = []
  hist0 : (st 0).hist = []

def bf (l : List DI) (i : Nat) : Nat := ((l[i]?).map (·.bef)).getD 0
def dd (l : List DI) (i : Nat) : Nat := ((l[i]?).map (·.d)).getD 0
def cellAt (st : Nat → DS) (f : Nat) : Cell := match (st (f + 1)).sides with | [] => deadC | x :: _ => x.c

theorem bf_some {l : List DI} {i : Nat} {x : DI} (h : l[i]? = some x) : bf l i = x.bef := by simp [bf, h]
theorem dd_some {l : List DI} {i : Nat} {x : DI} (h : l[i]? = some x) : dd l i = x.d := by simp [dd, h]

section
variable {call : Caller} {l : List DI} {st : Nat → DS} {val : Nat → V} {kd : Nat → Nat}

theorem Trace.get (h : Trace call l st val kd) {i : Nat} (hi : i < l.length) : ∃ x, l[i]? = some x ∧ StepOk call x i (st i) (st (i + 1)) (val i) (kd i) :=
  ⟨l[i], by simp [hi], h.step i _ (by simp [hi])⟩

theorem Trace.n_step (h : Trace call l st val kd) {i : Nat} (hi : i < l.length) : (st i).c.n ≤ (st (i + 1)).c.n ∧ (kd i = 1 → (st (i + 1)).c.n = (st i).c.n + 1) := by
  obtain ⟨x, hx, hs⟩ := h.get hi
  generalize st (i + 1) = s' at hs ⊢
  generalize val i = v at hs
  generalize kd i = k at hs ⊢
  cases hs with
  | skip => exact ⟨Nat.le_refl _, fun e => by cases e⟩
  | P => exact ⟨Nat.le_refl _, fun e => by cases e⟩
  | F _ _ hn => exact ⟨by show _ ≤ _; simp only; omega, fun _ => hn⟩
  | E _ _ _ hn => exact ⟨hn, fun e => by cases e⟩

theorem Trace.n_mono (h : Trace call l st val kd) {i j : Nat} (hij : i ≤ j) (hj : j ≤ l.length) : (st i).c.n ≤ (st j).c.n := by
  induction j with
  | zero => have : i = 0 := by omega
            subst this; exact Nat.le_refl _
  | succ j ih =>
    by_cases e : i = j + 1
    · subst e; exact Nat.le_refl _
    · exact Nat.le_trans (ih (by omega) (by omega)) (h.n_step (by omega)).1

theorem Trace.c_step (h : Trace call l st val kd) {i : Nat} (hi : i < l.length) (hk : kd i ≠ 2) : (st (i + 1)).c.h = (st i).c.h ∧ (st (i + 1)).hist = (st i).hist := by
  obtain ⟨x, hx, hs⟩ := h.get hi
  generalize st (i + 1) = s' at hs ⊢
  generalize val i = v at hs
  generalize kd i = k at hs hk
  cases hs with
  | skip => exact ⟨rfl, rfl⟩
  | P => exact ⟨rfl, rfl⟩
  | F => exact ⟨rfl, rfl⟩
  | E => exact absurd rfl hk
theorem Trace.c_same (h : Trace call l st val kd) {c i : Nat} (hci : c ≤ i) (hi : i ≤ l.length) (hk : ∀ e, c ≤ e → e < i → kd e ≠ 2) : (st i).c.h = (st c).c.h := by
  induction i with
  | zero => have : c = 0 := by omega
            subst this; rfl
  | succ i ih =>
    by_cases e : c = i + 1
    · subst e; rfl
    · rw [(h.c_step (by omega) (hk i (by omega) (by omega))).1]
      exact ih (by omega) (by omega) fun e h1 h2 => hk e h1 (by omega)

theorem Trace.hist_mem (h : Trace call l st val kd) {e i : Nat} (hei : e < i) (hi : i ≤ l.length) (hk : kd e = 2) : ∃ y ∈ (st i).hist, y.j = e ∧ y.h = (st e).c.h := by
  induction i with
  | zero => omega
  | succ i ih =>
    by_cases e1 : e = i
    · subst e1
      obtain ⟨x, hx, hs⟩ := h.get (i := e) (by omega)
      generalize st (e + 1) = s' at hs ⊢
      generalize val e = v at hs
      rw [hk] at hs
      cases hs with
      | E => exact ⟨⟨e, (st e).c.h⟩, List.mem_cons_self .., rfl, rfl⟩
    · obtain ⟨y, hy, h1⟩ := ih (by omega) (by omega)
      by_cases hk2 : kd i = 2
      · obtain ⟨x, hx, hs⟩ := h.get (i := i) (by omega)
        generalize st (i + 1) = s' at hs ⊢
        generalize val i = v at hs
        rw [hk2] at hs
        cases hs with
        | E => exact ⟨y, List.mem_cons_of_mem _ hy, h1⟩
      · rw [(h.c_step (by omega) hk2).2]; exact ⟨y, hy, h1⟩
theorem Trace.eff_bef (h : Trace call l st val kd) {e i : Nat} (hei : e < i) (hi : i < l.length) (hk : kd e = 2) (hk2 : kd i = 2) : (bf l i).testBit e = true := by
  obtain ⟨y, hy, h1, h2⟩ := h.hist_mem hei (by omega) hk
  obtain ⟨x, hx, hs⟩ := h.get hi
  rw [bf_some hx]
  generalize st (i + 1) = s' at hs
  generalize val i = v at hs
  rw [hk2] at hs
  cases hs with
  | E _ h3 => rw [← h1]; exact h3 y hy

theorem Trace.sides_mem (h : Trace call l st val kd) : ∀ {i : Nat}, i ≤ l.length → ∀ {x : Side}, x ∈ (st i).sides →
    x.j < i ∧ kd x.j = 1 ∧ x.id = (st x.j).c.n ∧ x.c = cellAt st x.j ∧ ∀ e, x.j < e → e < i → kd e = 2 → (bf l e).testBit x.j = false
  | 0, _, x, hx => by rw [h.sides0] at hx; cases hx
  | i + 1, hi, x, hx => by
    obtain ⟨d, hd, hs⟩ := h.get (i := i) (by omega)
    have old : kd i ≠ 2 → x ∈ (st i).sides → x.j < i + 1 ∧ kd x.j = 1 ∧ x.id = (st x.j).c.n ∧ x.c = cellAt st x.j ∧ ∀ e, x.j < e → e < i + 1 → kd e = 2 → (bf l e).testBit x.j = false := fun hk hx => by
      obtain ⟨a, b, c, d, e⟩ := h.sides_mem (i := i) (by omega) hx
      refine ⟨by omega, b, c, d, fun e' h1 h2 h3 => ?_⟩
      by_cases he : e' = i
      · subst he; exact absurd h3 hk
      · exact e e' h1 (by omega) h3
    have hcell : ∀ s', st (i + 1) = s' → cellAt st i = match s'.sides with | [] => deadC | x :: _ => x.c := fun s' hs' => by unfold cellAt; rw [hs']
    generalize hst : st (i + 1) = s' at hs hx
    generalize val i = v at hs
    generalize hkd : kd i = k at hs old
    cases hs with
    | skip => exact old (by omega) hx
    | P => exact old (by omega) hx
    | F =>
      rcases List.mem_cons.1 hx with rfl | hx
      · refine ⟨Nat.lt_succ_self _, hkd, rfl, (hcell _ hst).symm, fun e h1 h2 _ => ?_⟩
        simp only at h1; omega
      · exact old (by omega) hx
    | E =>
      obtain ⟨hx, hb⟩ := mem_keepSides.1 hx
      obtain ⟨a, b, c, d, e⟩ := h.sides_mem (i := i) (by omega) hx
      refine ⟨by omega, b, c, d, fun e' h1 h2 h3 => ?_⟩
      by_cases he : e' = i
      · subst he; rw [bf_some hd]; exact hb
      · exact e e' h1 (by omega) h3

theorem Trace.sides_has (h : Trace call l st val kd) {f : Nat} (hk : kd f = 1) : ∀ {i : Nat}, i ≤ l.length → f < i → (∀ e, f < e → e < i → kd e = 2 → (bf l e).testBit f = false) → ∃ x ∈ (st i).sides, x.j = f
  | 0, _, hf, _ => by omega
  | i + 1, hi, hf, hb => by
    obtain ⟨d, hd, hs⟩ := h.get (i := i) (by omega)
    by_cases e1 : f = i
    · subst e1
      generalize st (f + 1) = s' at hs ⊢
      generalize val f = v at hs
      rw [hk] at hs
      cases hs with
      | F => exact ⟨_, List.mem_cons_self .., rfl⟩
    · obtain ⟨x, hx, h1⟩ := h.sides_has hk (i := i) (by omega) (by omega) fun e h1 h2 => hb e h1 (by omega)
      have hbi := hb i (by omega) (by omega)
      rw [bf_some hd] at hbi
      generalize st (i + 1) = s' at hs ⊢
      generalize val i = v at hs
      generalize kd i = k at hs hbi
      cases hs with
      | skip => exact ⟨x, hx, h1⟩
      | P => exact ⟨x, hx, h1⟩
      | F => exact ⟨x, List.mem_cons_of_mem _ hx, h1⟩
      | E => exact ⟨x, mem_keepSides.2 ⟨hx, by rw [h1]; exact hbi rfl⟩, h1⟩

theorem Trace.pend_has (h : Trace call l st val kd) {p : Nat} {x : DI} (hk : kd p = 0) (hx : l[p]? = some x) : ∀ {i : Nat}, i ≤ l.length → p < i → (∀ e, p < e → e < i → kd e = 2 → (bf l e).testBit p = false) →
    ⟨p, x.bef, x.o, subE x.us (st p).e, val p⟩ ∈ (st i).pend
  | 0, _, hf, _ => by omega
  | i + 1, hi, hf, hb => by
    obtain ⟨d, hd, hs⟩ := h.get (i := i) (by omega)
    by_cases e1 : p = i
    · subst e1
      rw [hx] at hd; cases hd
      generalize st (p + 1) = s' at hs ⊢
      generalize val p = v at hs ⊢
      rw [hk] at hs
      cases hs with
      | P => exact List.mem_cons_self ..
    · have hm := h.pend_has hk hx (i := i) (by omega) (by omega) fun e h1 h2 => hb e h1 (by omega)
      have hbi := hb i (by omega) (by omega)
      rw [bf_some hd] at hbi
      generalize st (i + 1) = s' at hs ⊢
      generalize hv : val i = v at hs
      generalize kd i = k at hs hbi
      cases hs with
      | skip => exact hm
      | P => exact List.mem_cons_of_mem _ hm
      | F => exact hm
      | E => exact (mem_keepPend (j := i)).2 ⟨hm, hbi rfl⟩

/-! the frame -/
noncomputable def viewS (l : List DI) (val : Nat → V) (e : Env) (S : Nat → Bool) : Nat → Nat → Option V
  | 0, t => e.get t
  | i + 1, t => if S i = true ∧ dd l i = t + 1 then some (val i) else viewS l val e S i t

theorem setD_get (e : Env) (d : Nat) (v : V) (t : Nat) : (setD e d v).get t = if d = t + 1 then some v else e.get t := by
  cases d with
  | zero => rw [if_neg (by omega)]; rfl
  | succ d =>
    show (e.set d v).get t = _
    rw [T.get_set]
    by_cases h : d = t
    · subst h; simp
    · rw [if_neg h, if_neg (by omega)]

theorem Trace.env (h : Trace call l st val kd) : ∀ {i : Nat}, i ≤ l.length → ∀ t, (st i).e.get t = viewS l val (st 0).e (fun _ => true) i t
  | 0, _, t => rfl
  | i + 1, hi, t => by
    obtain ⟨d, hd, hs⟩ := h.get (i := i) (by omega)
    have e1 : (st (i + 1)).e = setD (st i).e d.d (val i) := by
      generalize st (i + 1) = s' at hs ⊢
      generalize val i = v at hs ⊢
      generalize kd i = k at hs
      cases hs <;> rfl
    rw [e1, setD_get, h.env (i := i) (by omega) t]
    simp only [viewS, dd_some hd, true_and]

theorem view_eq {e : Env} {S : Nat → Bool} {i t : Nat} : ∀ {m : Nat}, i ≤ m → (∀ k, k < m → dd l k = t + 1 → (S k = true ↔ k < i)) → viewS l val e S m t = viewS l val e (fun _ => true) i t
  | 0, hi, _ => by have : i = 0 := by omega
                   subst this; rfl
  | m + 1, hi, h => by
    by_cases e1 : i = m + 1
    · subst e1
      have hlow : ∀ k, k ≤ m + 1 → viewS l val e S k t = viewS l val e (fun _ => true) k t := fun k => by
        induction k with
        | zero => intro _; rfl
        | succ k ih =>
          intro hk
          simp only [viewS]
          rw [ih (by omega)]
          by_cases hd : dd l k = t + 1
          · have : S k = true := (h k (by omega) hd).2 (by omega)
            simp [this, hd]
          · simp [hd]
      exact hlow _ (Nat.le_refl _)
    · simp only [viewS]
      rw [if_neg (fun hh => by have := (h m (by omega) hh.2).1 hh.1; omega)]
      exact view_eq (by omega) fun k hk => h k (by omega)

def ins (S : Nat → Bool) (i : Nat) : Nat → Bool := fun k => if k = i then true else S k
theorem ins_self (S : Nat → Bool) (i : Nat) : ins S i i = true := by simp [ins]
theorem ins_ne {S : Nat → Bool} {i k : Nat} (h : k ≠ i) : ins S i k = S k := by simp [ins, h]
theorem ins_of {S : Nat → Bool} {i k : Nat} (h : S k = true) : ins S i k = true := by
  unfold ins; split
  · rfl
  · exact h
theorem ins_true {S : Nat → Bool} {i k : Nat} (h : ins S i k = true) : k = i ∨ S k = true := by
  unfold ins at h; split at h
  · exact .inl ‹_›
  · exact .inr h

theorem view_put_ne {e : Env} {S : Nat → Bool} {i t : Nat} (hd : dd l i ≠ t + 1) : ∀ m, viewS l val e (ins S i) m t = viewS l val e S m t
  | 0 => rfl
  | m + 1 => by
    simp only [viewS]
    rw [view_put_ne hd m]
    by_cases h : m = i
    · subst h; simp [hd]
    · rw [ins_ne h]
theorem view_put {e : Env} {S : Nat → Bool} {i t : Nat} (hd : dd l i = t + 1) : ∀ {m : Nat}, i < m → (∀ k, k < m → dd l k = t + 1 → S k = true → k < i) → viewS l val e (ins S i) m t = some (val i)
  | 0, hi, _ => by omega
  | m + 1, hi, h => by
    simp only [viewS]
    by_cases e1 : m = i
    · subst e1; rw [if_pos ⟨ins_self _ _, hd⟩]
    · rw [if_neg (fun hh => by have := h m (by omega) hh.2 (by rw [ins_ne e1] at hh; exact hh.1); omega)]
      exact view_put hd (by omega) fun k hk => h k (by omega)
theorem view_mem {e : Env} {S : Nat → Bool} {t : Nat} {v : V} : ∀ {m : Nat}, viewS l val e S m t = some v → e.get t = some v ∨ ∃ k, k < m ∧ S k = true ∧ dd l k = t + 1 ∧ v = val k
  | 0, h => .inl h
  | m + 1, h => by
    simp only [viewS] at h
    by_cases hh : S m = true ∧ dd l m = t + 1
    · rw [if_pos hh] at h
      exact .inr ⟨m, Nat.lt_succ_self _, hh.1, hh.2, (Option.some.inj h).symm⟩
    · rw [if_neg hh] at h
      rcases view_mem h with h | ⟨k, a, b⟩
      · exact .inl h
      · exact .inr ⟨k, by omega, b⟩
end
end Go.Lm
