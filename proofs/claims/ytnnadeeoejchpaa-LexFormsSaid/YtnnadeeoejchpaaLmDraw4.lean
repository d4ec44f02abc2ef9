/- A region that draws: what its form says. -/
import Derived.Test.YtnnadeeoejchpaaLmDraw3
set_option linter.all false
namespace Go.Lm

theorem seqN_eq {α : Type} (n : Nat) (k : Nat → α) : seqN n k = k n := by cases n <;> rfl

theorem appK_eq {α β : Type} (x : α) : ∀ (l : List α) (k : List α → β), appK x l k = k (l ++ [x])
  | [], k => rfl
  | y :: l, k => by unfold appK; rw [appK_eq x l]; rfl
theorem masks_cons (o : Oper) (l : List Oper) (acc : List Nat) : masks (o :: l) acc = masks l (acc ++ [edgeMask acc o.after.toList]) := by simp only [masks, seqN_eq, appK_eq]
theorem masks_spec : ∀ (l : List Oper) (acc : List Nat), (masks l acc).length = acc.length + l.length ∧ (∀ i, i < acc.length → (masks l acc)[i]? = acc[i]?) ∧
    ∀ i o, l[i]? = some o → ∃ acc', acc'.length = acc.length + i ∧ (∀ k, k < acc'.length → acc'[k]? = (masks l acc)[k]?) ∧ (masks l acc)[acc.length + i]? = some (edgeMask acc' o.after.toList)
  | [], acc => ⟨by simp [masks], fun i _ => by simp [masks], fun i o h => by simp at h⟩
  | o :: l, acc => by
    rw [masks_cons]
    obtain ⟨h1, h2, h3⟩ := masks_spec l (acc ++ [edgeMask acc o.after.toList])
    refine ⟨by rw [h1]; simp; omega, fun i hi => ?_, fun i o' ho => ?_⟩
    · rw [h2 i (by simp; omega), List.getElem?_append_left hi]
    · cases i with
      | zero =>
        simp at ho; subst ho
        refine ⟨acc, rfl, fun k hk => ?_, ?_⟩
        · rw [h2 k (by simp; omega), List.getElem?_append_left hk]
        · rw [h2 _ (by simp)]; simp
      | succ i =>
        obtain ⟨acc', a, b, c⟩ := h3 i o' (by simpa using ho)
        refine ⟨acc', by rw [a]; simp; omega, b, ?_⟩
        have : acc.length + (i + 1) = (acc ++ [edgeMask acc o.after.toList]).length + i := by simp; omega
        rw [this]; exact c

theorem edgeMask_bit {acc : List Nat} {j : Nat} : ∀ {es : List Edge}, (edgeMask acc es).testBit j = true → ∃ e ∈ es, Region.binds .any e = true ∧ (j = e.on ∨ (acc.getD e.on 0).testBit j = true)
  | [], h => by simp [edgeMask] at h
  | e :: es, h => by
    unfold edgeMask at h
    by_cases hb : Region.binds .any e = true
    · rw [if_pos hb, Nat.testBit_or, Nat.testBit_or, Bool.or_eq_true, Bool.or_eq_true] at h
      rcases h with h | h | h
      · rw [Nat.testBit_two_pow] at h
        exact ⟨e, List.mem_cons_self .., hb, .inl (of_decide_eq_true h).symm⟩
      · exact ⟨e, List.mem_cons_self .., hb, .inr h⟩
      · obtain ⟨e', h1, h2⟩ := edgeMask_bit h
        exact ⟨e', List.mem_cons_of_mem _ h1, h2⟩
    · rw [if_neg hb] at h
      obtain ⟨e', h1, h2⟩ := edgeMask_bit h
      exact ⟨e', List.mem_cons_of_mem _ h1, h2⟩

theorem mask_bit {ops : List Oper} {i : Nat} {o : Oper} (ho : ops[i]? = some o) : ∃ m, (masks ops [])[i]? = some m ∧ ∀ j, m.testBit j = true → ∃ e ∈ o.after.toList, Region.binds .any e = true ∧
    (j = e.on ∨ ∃ m', (masks ops [])[e.on]? = some m' ∧ e.on < i ∧ m'.testBit j = true) := by
  obtain ⟨h1, h2, h3⟩ := masks_spec ops []
  obtain ⟨acc', a, b, c⟩ := h3 i o ho
  simp only [List.length_nil, Nat.zero_add] at a c
  refine ⟨_, c, fun j hj => ?_⟩
  obtain ⟨e, he, hb, h⟩ := edgeMask_bit hj
  refine ⟨e, he, hb, h.imp id fun h => ?_⟩
  rw [List.getD_eq_getElem?_getD] at h
  by_cases hlt : e.on < acc'.length
  · rw [b _ hlt] at h
    cases hm : (masks ops [])[e.on]? with
    | none => rw [hm] at h; simp at h
    | some m' => rw [hm] at h; exact ⟨m', rfl, by omega, h⟩
  · rw [List.getElem?_eq_none (by omega)] at h; simp at h

theorem hits_iff {d : Option Nat} {l : List Nat} : hits d l = true ↔ ∃ t, d = some t ∧ t ∈ l := by
  cases d with
  | none =>
    constructor
    · intro h; cases h
    · rintro ⟨t, h, _⟩; cases h
  | some d =>
    unfold hits
    dsimp only
    rw [List.any_eq_true]
    constructor
    · rintro ⟨x, hx, he⟩
      have : x = d := by simpa using he
      subst this; exact ⟨x, rfl, hx⟩
    · rintro ⟨t, he, ht⟩
      cases he
      exact ⟨d, ht, by simp⟩

theorem tmpOk1_spec {d : Option Nat} {names : List Nat} {m : Nat} : ∀ {l : List (Option Nat × List Nat)} {i0 : Nat}, tmpOk1 d names m l i0 = true → ∀ (i : Nat) (p : Option Nat × List Nat), l[i]? = some p → (hits p.1 names = true ∨ hits d p.2 = true) → m.testBit (i0 + i) = true
  | [], i0, _, i, p, hp, _ => by simp at hp
  | x :: l, i0, h, i, p, hp, hh => by
    unfold tmpOk1 at h
    obtain ⟨h1, h2⟩ := Bool.and_eq_true_iff.1 h
    cases i with
    | zero =>
      simp at hp; subst hp
      rcases hh with hh | hh <;> simpa [hh] using h1
    | succ i =>
      have := tmpOk1_spec h2 i p (by simpa using hp) hh
      rw [show i0 + (i + 1) = i0 + 1 + i by omega]; exact this
theorem tmpOk_spec {ops : Array Oper} : ∀ {l : List (Oper × Nat)} {acc : List (Option Nat × List Nat)}, tmpOk ops l acc = true → ∀ (j : Nat) (p : Oper × Nat), l[j]? = some p →
    (∀ (i : Nat) (x : Option Nat × List Nat), acc[i]? = some x → (hits x.1 (namesOf ops p.1) = true ∨ hits p.1.dst x.2 = true) → p.2.testBit i = true) ∧
    (∀ (i : Nat) (x : Oper × Nat), i < j → l[i]? = some x → (hits x.1.dst (namesOf ops p.1) = true ∨ hits p.1.dst (namesOf ops x.1) = true) → p.2.testBit (acc.length + i) = true)
  | [], acc, _, j, p, hp => by simp at hp
  | y :: l, acc, h, j, p, hp => by
    unfold tmpOk at h
    rw [appK_eq] at h
    obtain ⟨h1, h2⟩ := Bool.and_eq_true_iff.1 h
    cases j with
    | zero =>
      simp at hp; subst hp
      exact ⟨fun i x hx hh => by have := tmpOk1_spec h1 i x hx hh; simpa using this, fun i x hi => by omega⟩
    | succ j =>
      obtain ⟨h3, h4⟩ := tmpOk_spec h2 j p (by simpa using hp)
      refine ⟨fun i x hx hh => h3 i x ?_ hh, fun i x hi hx hh => ?_⟩
      · rw [List.getElem?_append_left]
        · exact hx
        · rcases Nat.lt_or_ge i acc.length with h | h
          · exact h
          · rw [List.getElem?_eq_none h] at hx; cases hx
      · cases i with
        | zero =>
          simp at hx; subst hx
          exact h3 acc.length (y.1.dst, namesOf ops y.1) (by simp) hh
        | succ i =>
          have := h4 i x (by omega) (by simpa using hx) hh
          rw [List.length_append, List.length_singleton] at this
          rw [show acc.length + (i + 1) = acc.length + 1 + i by omega]; exact this

theorem zip_get {α β : Type} {l : List α} {m : List β} {i : Nat} {a : α} {b : β} (h1 : l[i]? = some a) (h2 : m[i]? = some b) : (l.zip m)[i]? = some (a, b) :=
  List.getElem?_zip_eq_some.2 ⟨h1, h2⟩

/-- what the form of a region says -/
structure RegOk (P : Program) (N D : Nat) (ops : Array Oper) (l : List DI) : Prop where
  len : l.length = ops.size
  size : ops.size ≤ 200
  get : ∀ (i : Nat) (o : Oper), ops[i]? = some o → ∃ m, l[i]? = some (compDI P D ops m o)
  bit : ∀ (i : Nat) (o : Oper) (j : Nat), ops[i]? = some o → (bf l i).testBit j = true → ∃ e ∈ o.after, Region.binds .any e = true ∧ (j = e.on ∨ (e.on < i ∧ (bf l e.on).testBit j = true))
  low : ∀ (i : Nat) (o : Oper), ops[i]? = some o → ∀ e ∈ o.after, Region.binds .any e = true → e.on < i
  guard : ∀ (i : Nat) (o : Oper) (j : Nat) (b : Bool), ops[i]? = some o → o.guard = some (j, b) → ∃ e ∈ o.after, e.on = j ∧ Region.binds .any e = true
  tmp : ∀ (i j : Nat) (oi oj : Oper), i < j → ops[i]? = some oi → ops[j]? = some oj → (hits oi.dst (namesOf ops oj) = true ∨ hits oj.dst (namesOf ops oi) = true) → (bf l j).testBit i = true
  dst : ∀ (i : Nat) (o : Oper) (d : Nat), ops[i]? = some o → o.dst = some d → d < N

theorem regOk {P : Program} {N D : Nat} {ops : Array Oper} (h : drawOk ops = true) (hd : ops.toList.all (fun o => dstOk N o.dst) = true) :
    RegOk P N D ops ((ops.toList.zip (masks ops.toList [])).map fun p => compDI P D ops p.2 p.1) := by
  unfold drawOk at h
  simp only [Bool.and_eq_true, decide_eq_true_eq] at h
  obtain ⟨⟨⟨h1, h2⟩, h3⟩, h4⟩ := h
  have hget : ∀ (i : Nat) (o : Oper), ops[i]? = some o → ∃ m, (masks ops.toList [])[i]? = some m ∧ ((ops.toList.zip (masks ops.toList [])).map fun p => compDI P D ops p.2 p.1)[i]? = some (compDI P D ops m o) := fun i o ho => by
    have ho : ops.toList[i]? = some o := by simpa using ho
    obtain ⟨m, hm, _⟩ := mask_bit ho
    refine ⟨m, hm, ?_⟩
    rw [List.getElem?_map, zip_get ho hm]; rfl
  have hbf : ∀ (i : Nat) (o : Oper), ops[i]? = some o → ∃ m, (masks ops.toList [])[i]? = some m ∧ bf ((ops.toList.zip (masks ops.toList [])).map fun p => compDI P D ops p.2 p.1) i = m := fun i o ho => by
    obtain ⟨m, hm, hx⟩ := hget i o ho
    exact ⟨m, hm, bf_some hx⟩
  have hop : ∀ (i : Nat) (o : Oper), ops[i]? = some o → o ∈ ops.toList := fun i o ho => List.mem_of_getElem? (by simpa using ho)
  have hlow : ∀ (i : Nat) (o : Oper), ops[i]? = some o → ∀ e ∈ o.after, Region.binds .any e = true → e.on < i := fun i o ho e he hb => by
    have := List.all_eq_true.1 h3 (o, i) (by
      rw [List.mem_zipIdx_iff_getElem?]; simpa using ho)
    dsimp only at this
    rw [Array.all_eq_true'] at this
    have := this e he
    simpa [hb] using this
  refine ⟨?_, h1, fun i o ho => let ⟨m, _, hx⟩ := hget i o ho; ⟨m, hx⟩, fun i o j ho hj => ?_, hlow, fun i o j b ho hg => ?_, fun i j oi oj hij hoi hoj hh => ?_, fun i o d ho hdd => ?_⟩
  · rw [List.length_map, List.length_zip, (masks_spec _ _).1]; simp
  · obtain ⟨m, hm, hx⟩ := hbf i o ho
    obtain ⟨m', hm', hbit⟩ := mask_bit (show ops.toList[i]? = some o by simpa using ho)
    rw [hm] at hm'; cases hm'
    rw [hx] at hj
    obtain ⟨e, he, hb, h⟩ := hbit j hj
    refine ⟨e, by simpa using he, hb, h.imp id fun ⟨m2, a, b, c⟩ => ⟨b, ?_⟩⟩
    have hlt : e.on < ops.size := by
      have := (masks_spec ops.toList []).1
      rcases Nat.lt_or_ge e.on (masks ops.toList []).length with h' | h'
      · simp at this; omega
      · rw [List.getElem?_eq_none h'] at a; cases a
    obtain ⟨m3, hm3, hx3⟩ := hbf e.on ops[e.on] (by simp [hlt])
    rw [a] at hm3; cases hm3
    rw [hx3]; exact c
  · have := List.all_eq_true.1 h4 o (hop i o ho)
    rw [hg] at this
    simp only [Array.any_eq_true'] at this
    obtain ⟨e, he, h⟩ := this
    simp only [Bool.and_eq_true, beq_iff_eq] at h
    exact ⟨e, he, h.1, h.2⟩
  · obtain ⟨mi, hmi, _⟩ := hbf i oi hoi
    obtain ⟨mj, hmj, hx⟩ := hbf j oj hoj
    have := (tmpOk_spec h2 j (oj, mj) (zip_get (by simpa using hoj) hmj)).2 i (oi, mi) hij (zip_get (by simpa using hoi) hmi) hh
    rw [hx]; simpa using this
  · have := List.all_eq_true.1 hd o (hop i o ho)
    rw [hdd] at this
    simpa [dstOk] using this

/-- what is done is closed -/
def Closed (ops : Array Oper) (S : Nat → Bool) : Prop := ∀ (i : Nat) (o : Oper), ops[i]? = some o → S i = true → ∀ e ∈ o.after, Region.binds .any e = true → S e.on = true
theorem RegOk.closed {P : Program} {N D : Nat} {ops : Array Oper} {l : List DI} (h : RegOk P N D ops l) {S : Nat → Bool} (hS : Closed ops S) : ∀ (i : Nat) (o : Oper), ops[i]? = some o →
    (∀ e ∈ o.after, Region.binds .any e = true → S e.on = true) → ∀ j, (bf l i).testBit j = true → S j = true := fun i => by
  induction i using Nat.strongRecOn with
  | _ i ih =>
    intro o ho he j hj
    obtain ⟨e, hm, hb, h1⟩ := h.bit i o j ho hj
    rcases h1 with rfl | ⟨h1, h2⟩
    · exact he e hm hb
    · have hlt : i < ops.size := by
        rcases Nat.lt_or_ge i ops.size with h' | h'
        · exact h'
        · rw [Array.getElem?_eq_none h'] at ho; cases ho
      have hs := he e hm hb
      have ho' : ops[e.on]? = some ops[e.on] := by simp [show e.on < ops.size by omega]
      exact ih e.on h1 _ ho' (fun e' he' hb' => hS _ _ ho' hs e' he' hb') j h2
end Go.Lm
