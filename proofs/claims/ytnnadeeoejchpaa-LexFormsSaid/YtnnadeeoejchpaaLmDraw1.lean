/- A heap and a part of it. -/
import Derived.Test.YtnnadeeoejchpaaLmEv2
set_option linter.all false
namespace Go.Lm

abbrev Hp := Nat → Cell → Prop
def LiveF (H : Hp) (i : Nat) (c : Cell) : Prop := H i c ∧ c.t ≠ 4
def hpOf (s : St) : Hp := fun i c => s.h.get i = some c

def Rho.cut (ρ : Rho) (n : Nat) : Rho := fun i => if i < n then ρ i else none
theorem Rho.cut_le (ρ : Rho) (n : Nat) : (ρ.cut n).le ρ := fun i p h => by
  unfold Rho.cut at h; split at h
  · exact h
  · cases h
theorem Rho.cut_lt {ρ : Rho} {n i : Nat} (h : i < n) : ρ.cut n i = ρ i := by simp [Rho.cut, h]
/-- below n as ρ' has it, else as ρ has it -/
def Rho.over (ρ' : Rho) (n : Nat) (ρ : Rho) : Rho := fun i => if i < n then ρ' i else ρ i

mutual
inductive VS (n : Nat) : V → Prop
  | mk {v : V} : (v.t = 4 ∨ v.t = 6 ∨ v.t = 8 ∨ v.t = 9 ∨ v.t = 15 → v.a < n) → VSL n v.l → VS n v
inductive VSL (n : Nat) : List V → Prop
  | nil : VSL n []
  | cons {v : V} {l : List V} : VS n v → VSL n l → VSL n (v :: l)
end
mutual
theorem VS.mono {n m : Nat} (h : n ≤ m) {v : V} : VS n v → VS m v
  | .mk x y => .mk (fun e => Nat.lt_of_lt_of_le (x e) h) (VSL.mono h y)
theorem VSL.mono {n m : Nat} (h : n ≤ m) {l : List V} : VSL n l → VSL m l
  | .nil => .nil
  | .cons x y => .cons (VS.mono h x) (VSL.mono h y)
end

theorem ofK_ge (k : IntKind) : 16 ≤ ofK k := by cases k <;> simp [ofK]
mutual
theorem VR.inScope {ρ : Rho} {n : Nat} (hs : ∀ i p, ρ i = some p → i < n) {v : V} {r : Value} : VR ρ v r → VS n v
  | .f => .mk (fun e => by simp [vF] at e) .nil
  | .t => .mk (fun e => by simp [vT] at e) .nil
  | .int k m => .mk (fun e => by have := ofK_ge k; simp [vInt] at e; omega) .nil
  | .neg k m => .mk (fun e => by have := ofK_ge k; simp [vInt] at e; omega) .nil
  | .str s => .mk (fun e => by simp [vStr] at e) .nil
  | .ptr x => .mk (fun _ => hs _ _ x) .nil
  | .nilp => .mk (fun e => by simp [vNilP] at e) .nil
  | .sl x _ _ _ => .mk (fun _ => hs _ _ x) .nil
  | .sz _ x => .mk (fun _ => hs _ _ x) .nil
  | .nils => .mk (fun e => by simp [vNilS] at e) .nil
  | .sx x => .mk (fun _ => hs _ _ x) .nil
  | .sxz _ x => .mk (fun _ => hs _ _ x) .nil
  | .map x _ => .mk (fun _ => hs _ _ x) .nil
  | .nilm => .mk (fun e => by simp [vNilM] at e) .nil
  | .fn x => .mk (fun e => by simp [vFn] at e) (VRL.inScope hs x)
  | .nf => .mk (fun e => by simp [vNilF] at e) .nil
  | .agg x _ => .mk (fun e => by simp [vAgg] at e) (VRL.inScope hs x)
  | .tup x => .mk (fun e => by simp [vTup] at e) (VRL.inScope hs x)
  | .yield x => .mk (fun _ => hs _ _ x) .nil
theorem VRL.inScope {ρ : Rho} {n : Nat} (hs : ∀ i p, ρ i = some p → i < n) {l : List V} {r : List Value} : VRL ρ l r → VSL n l
  | .nil => .nil
  | .cons x y => .cons (VR.inScope hs x) (VRL.inScope hs y)
end

theorem cut_some {ρ : Rho} {n i : Nat} {p : Pl} (h : i < n) (hp : ρ i = some p) : ρ.cut n i = some p := by rw [Rho.cut_lt h]; exact hp
mutual
theorem VR.cut {ρ : Rho} {n : Nat} {v : V} {r : Value} : VR ρ v r → VS n v → VR (ρ.cut n) v r
  | .f, _ => .f
  | .t, _ => .t
  | .int k m, _ => .int k m
  | .neg k m, _ => .neg k m
  | .str s, _ => .str s
  | .ptr x, .mk h _ => .ptr (cut_some (h (.inl rfl)) x)
  | .nilp, _ => .nilp
  | .sl x a b c, .mk h _ => .sl (cut_some (h (.inr (.inl rfl))) x) a b c
  | .sz a x, .mk h _ => .sz a (cut_some (h (.inr (.inl rfl))) x)
  | .nils, _ => .nils
  | .sx x, .mk h _ => .sx (cut_some (h (.inr (.inr (.inl rfl)))) x)
  | .sxz a x, .mk h _ => .sxz a (cut_some (h (.inr (.inr (.inl rfl)))) x)
  | .map x o, .mk h _ => .map (cut_some (h (.inr (.inr (.inr (.inl rfl))))) x) o
  | .nilm, _ => .nilm
  | .fn x, .mk _ h => .fn (VRL.cut x h)
  | .nf, _ => .nf
  | .agg x y, .mk _ h => .agg (VRL.cut x h) y
  | .tup x, .mk _ h => .tup (VRL.cut x h)
  | .yield x, .mk h _ => .yield (cut_some (h (.inr (.inr (.inr (.inr rfl))))) x)
theorem VRL.cut {ρ : Rho} {n : Nat} {l : List V} {r : List Value} : VRL ρ l r → VSL n l → VRL (ρ.cut n) l r
  | .nil, _ => .nil
  | .cons x y, .cons h h' => .cons (VR.cut x h) (VRL.cut y h')
end

def CellVS (n : Nat) (c : Cell) : Prop :=
  (c.t ≤ 1 → ∀ j v, c.val j = some v → VS n v) ∧ (c.t = 2 → ∀ x ∈ c.es, VS n x.1 ∧ VS n x.2) ∧ (c.t = 3 → ∀ t v, c.c.get t = some v → VS n v)
theorem CellVS.mono {n m : Nat} (h : n ≤ m) {c : Cell} (x : CellVS n c) : CellVS m c :=
  ⟨fun e j v hv => (x.1 e j v hv).mono h, fun e y hy => ⟨(x.2.1 e y hy).1.mono h, (x.2.1 e y hy).2.mono h⟩, fun e t v hv => (x.2.2 e t v hv).mono h⟩
theorem ER.inScope {ρ : Rho} {n : Nat} (hs : ∀ i p, ρ i = some p → i < n) : ∀ {l : List (V × V)} {l' : List MapEntry}, ER ρ l l' → ∀ x ∈ l, VS n x.1 ∧ VS n x.2
  | _, _, .nil, x, hx => by cases hx
  | _, _, .cons a b c, x, hx => by
    rcases List.mem_cons.1 hx with rfl | hx
    · exact ⟨a.inScope hs, b.inScope hs⟩
    · exact ER.inScope hs c x hx
theorem ER.cut {ρ : Rho} {n : Nat} : ∀ {l : List (V × V)} {l' : List MapEntry}, ER ρ l l' → (∀ x ∈ l, VS n x.1 ∧ VS n x.2) → ER (ρ.cut n) l l'
  | _, _, .nil, _ => .nil
  | _, _, .cons a b c, h => .cons (a.cut (h _ (List.mem_cons_self ..)).1) (b.cut (h _ (List.mem_cons_self ..)).2) (ER.cut c fun x hx => h x (List.mem_cons_of_mem _ hx))

section
variable {lc : Lc}
theorem CellR.inScope {ρ : Rho} {n : Nat} (hs : ∀ i p, ρ i = some p → i < n) {c : Cell} {p : Pl} {w : World} (h : CellR lc ρ c p w) : CellVS n c := by
  obtain ⟨h0, h1, h2, h3, h4⟩ := h
  refine ⟨fun e j v hv => ?_, fun e => ?_, fun e t v hv => ?_⟩
  · by_cases e0 : c.t = 0
    · obtain ⟨_, _, _, cs, ty, _, _, _, hval⟩ := h0 e0
      obtain ⟨r, _, hr, _⟩ := hval j v hv
      exact hr.inScope hs
    · obtain ⟨_, _, hval⟩ := h1 (by omega)
      obtain ⟨r, _, hr, _⟩ := hval j v hv
      exact hr.inScope hs
  · obtain ⟨_, es, ck, _, her⟩ := h2 e
    exact her.inScope hs
  · obtain ⟨_, l, _, hl⟩ := h3 e
    exact (hl.env t v hv).inScope hs
theorem CellR.cut {ρ : Rho} {n : Nat} {c : Cell} {p : Pl} {w : World} (h : CellR lc ρ c p w) (hv : CellVS n c) : CellR lc (ρ.cut n) c p w := by
  obtain ⟨h0, h1, h2, h3, h4⟩ := h
  refine ⟨fun e => ?_, fun e => ?_, fun e => ?_, fun e => ?_, h4⟩
  · obtain ⟨a, b, c', cs, ty, x, y, z, hval⟩ := h0 e
    exact ⟨a, b, c', cs, ty, x, y, z, fun j v hj => let ⟨r, r1, r2, r3⟩ := hval j v hj; ⟨r, r1, r2.cut (hv.1 (by omega) j v hj), r3⟩⟩
  · obtain ⟨a, b, hval⟩ := h1 e
    exact ⟨a, b, fun j v hj => let ⟨r, r1, r2, r3⟩ := hval j v hj; ⟨r, r1, r2.cut (hv.1 (by omega) j v hj), r3⟩⟩
  · obtain ⟨a, es, ck, x, her⟩ := h2 e
    exact ⟨a, es, ck, x, her.cut (hv.2.1 e)⟩
  · obtain ⟨a, l, x, hl⟩ := h3 e
    exact ⟨a, l, x, { hl with env := fun t v hj => (hl.env t v hj).cut (hv.2.2 e t v hj) }⟩

structure RelF (lc : Lc) (ρ : Rho) (H : Hp) (w : World) : Prop where
  cell : ∀ i c, LiveF H i c → ∃ p, ρ i = some p ∧ CellR lc ρ c p w
  inj : ∀ i j ci cj p q, LiveF H i ci → LiveF H j cj → ρ i = some p → ρ j = some q → i ≠ j → p.own = true → q.blk ≠ p.blk

def OwnedF (ρ : Rho) (H : Hp) (r : Nat) : Prop := ∃ i c p, LiveF H i c ∧ ρ i = some p ∧ p.own = true ∧ p.blk = r
def UsedF (ρ : Rho) (H : Hp) (r : Nat) : Prop := ∃ i c p, LiveF H i c ∧ ρ i = some p ∧ p.blk = r
structure KeepF (ρ : Rho) (H : Hp) (w w' : World) : Prop where
  size : w.heap.size ≤ w'.heap.size
  same : ∀ r, r < w.heap.size → ¬ OwnedF ρ H r → w'.heap[r]? = w.heap[r]?
  os : w'.os = w.os
  tape : w'.tape = w.tape
  output : w'.output = w.output
structure GoesF (lc : Lc) (ρ : Rho) (H : Hp) (w : World) (ρ' : Rho) (H' : Hp) (w' : World) : Prop where
  le : ρ.le ρ'
  rel : RelF lc ρ' H' w'
  keep : KeepF ρ H w w'
  own : ∀ r, OwnedF ρ' H' r → w.heap.size ≤ r ∨ OwnedF ρ H r
  used : ∀ r, UsedF ρ' H' r → w.heap.size ≤ r ∨ UsedF ρ H r

theorem RelF.of_rel {ρ : Rho} {s : St} {w : World} (h : Rel lc ρ s w) : RelF lc ρ (hpOf s) w := ⟨h.cell, h.inj⟩
theorem GoesF.refl {ρ : Rho} {H : Hp} {w : World} (h : RelF lc ρ H w) : GoesF lc ρ H w ρ H w := ⟨Rho.le_refl _, h, ⟨Nat.le_refl _, fun _ _ _ => rfl, rfl, rfl, rfl⟩, fun _ h => .inr h, fun _ h => .inr h⟩
theorem GoesF.trans {ρ ρ₁ ρ₂ : Rho} {s s₁ s₂ : Hp} {w w₁ w₂ : World} (h : GoesF lc ρ s w ρ₁ s₁ w₁) (h' : GoesF lc ρ₁ s₁ w₁ ρ₂ s₂ w₂) : GoesF lc ρ s w ρ₂ s₂ w₂ where
  le := Rho.le_trans h.le h'.le
  rel := h'.rel
  keep := {
    size := Nat.le_trans h.keep.size h'.keep.size
    same := fun r hr ho => by
      rw [h'.keep.same r (Nat.lt_of_lt_of_le hr h.keep.size) (fun ho' => ?_), h.keep.same r hr ho]
      rcases h.own r ho' with h1 | h1
      · omega
      · exact ho h1
    os := h'.keep.os.trans h.keep.os
    tape := h'.keep.tape.trans h.keep.tape
    output := h'.keep.output.trans h.keep.output }
  own := fun r ho => by
    rcases h'.own r ho with h1 | h1
    · exact .inl (Nat.le_trans h.keep.size h1)
    · exact h.own r h1
  used := fun r ho => by
    rcases h'.used r ho with h1 | h1
    · exact .inl (Nat.le_trans h.keep.size h1)
    · exact h.used r h1

theorem RelF.blk_lt {ρ : Rho} {H : Hp} {w : World} (h : RelF lc ρ H w) {i : Nat} {c : Cell} {p : Pl} (hc : LiveF H i c) (hp : ρ i = some p) : p.blk < w.heap.size := by
  obtain ⟨q, hq, h0, h1, h2, h3, h4⟩ := h.cell i c hc
  rw [hp] at hq; cases hq
  have ht := hc.2
  by_cases e0 : c.t = 0
  · obtain ⟨_, _, _, cs, ty, x, _⟩ := h0 e0; exact heap_lt x
  by_cases e1 : c.t = 1
  · obtain ⟨_, ⟨o, x⟩, _⟩ := h1 e1; exact heap_lt x
  by_cases e2 : c.t = 2
  · obtain ⟨_, es, ck, x, _⟩ := h2 e2; exact heap_lt x
  by_cases e3 : c.t = 3
  · obtain ⟨_, l, x, _⟩ := h3 e3; exact heap_lt x
  · omega

/-- fewer blocks -/
theorem RelF.less {ρ : Rho} {H H' : Hp} {w : World} (h : RelF lc ρ H w) (hs : ∀ i c, LiveF H' i c → LiveF H i c) : RelF lc ρ H' w :=
  ⟨fun i c hc => h.cell i c (hs i c hc), fun i j ci cj p q hi hj => h.inj i j ci cj p q (hs _ _ hi) (hs _ _ hj)⟩
theorem GoesF.less {ρ ρ' : Rho} {H H' H'' : Hp} {w w' : World} (h : GoesF lc ρ H w ρ' H' w') (hs : ∀ i c, LiveF H'' i c → LiveF H' i c) : GoesF lc ρ H w ρ' H'' w' :=
  ⟨h.le, h.rel.less hs, h.keep, fun r ⟨i, c, p, a, b⟩ => h.own r ⟨i, c, p, hs _ _ a, b⟩, fun r ⟨i, c, p, a, b⟩ => h.used r ⟨i, c, p, hs _ _ a, b⟩⟩
/-- a part, as a memory of its own -/
theorem RelF.part {ρ : Rho} {H : Hp} {w : World} (h : RelF lc ρ H w) {s : St} (hs : ∀ i c, Live s i c → LiveF H i c) (hd : ∀ i c, s.h.get i = some c → i < s.n) (hv : ∀ i c, Live s i c → CellVS s.n c) :
    Rel lc (ρ.cut s.n) s w where
  cell := fun i c hc => by
    obtain ⟨p, hp, hr⟩ := h.cell i c (hs i c hc)
    exact ⟨p, cut_some (hd i c hc.1) hp, hr.cut (hv i c hc)⟩
  scope := fun i p hp => by
    unfold Rho.cut at hp; split at hp
    · assumption
    · cases hp
  dom := hd
  inj := fun i j ci cj p q hi hj hp hq => h.inj i j ci cj p q (hs _ _ hi) (hs _ _ hj) (Rho.cut_le _ _ _ _ hp) (Rho.cut_le _ _ _ _ hq)

/-- a run over a part leaves the rest -/
theorem frame {ρ ρ' : Rho} {H H' : Hp} {w w' : World} {s s' : St} (h : RelF lc ρ H w) (hs : ∀ i c, Live s i c → LiveF H i c) (hg : Goes lc (ρ.cut s.n) s w ρ' s' w')
    (hnew : ∀ i, s.n ≤ i → i < s'.n → ρ i = none) (hH : ∀ i c, LiveF H' i c → Live s' i c ∨ (LiveF H i c ∧ (∀ c', ¬ Live s i c') ∧ ¬ (s.n ≤ i ∧ i < s'.n))) :
    GoesF lc ρ H w (ρ'.over s'.n ρ) H' w' ∧ ρ'.le (ρ'.over s'.n ρ) := by
  have hle' : ρ'.le (ρ'.over s'.n ρ) := fun i p hp => by
    have := hg.rel.scope i p hp
    unfold Rho.over; rw [if_pos this]; exact hp
  have hle : ρ.le (ρ'.over s'.n ρ) := fun i p hp => by
    unfold Rho.over
    by_cases h1 : i < s'.n
    · rw [if_pos h1]
      by_cases h2 : i < s.n
      · exact hg.le i p (cut_some h2 hp)
      · rw [hnew i (by omega) h1] at hp; cases hp
    · rw [if_neg h1]; exact hp
  have hin : ∀ i c, Live s' i c → i < s'.n := fun i c hc => hg.rel.dom i c hc.1
  have hov : ∀ i, i < s'.n → (ρ'.over s'.n ρ) i = ρ' i := fun i hi => by simp [Rho.over, hi]
  have hrest : ∀ i, ¬ (s.n ≤ i ∧ i < s'.n) → ∀ p, ρ i = some p → (ρ'.over s'.n ρ) i = some p := fun i hi p hp => hle i p hp
  have hown : ∀ r, Owned (ρ.cut s.n) s r → OwnedF ρ H r := fun r ⟨i, c, p, a, b, o, e⟩ => ⟨i, c, p, hs _ _ a, Rho.cut_le _ _ _ _ b, o, e⟩
  have hused : ∀ r, Used (ρ.cut s.n) s r → UsedF ρ H r := fun r ⟨i, c, p, a, b, e⟩ => ⟨i, c, p, hs _ _ a, Rho.cut_le _ _ _ _ b, e⟩
  -- of what stands beside the part
  have hside : ∀ i c p, LiveF H i c → (∀ c', ¬ Live s i c') → ρ i = some p → ¬ Owned (ρ.cut s.n) s p.blk := fun i c p hi hno hp ⟨j, cj, pj, hj, hpj, hoj, he⟩ => by
    have hij : j ≠ i := fun e => by subst e; exact hno _ hj
    exact h.inj j i cj c pj p (hs _ _ hj) hi (Rho.cut_le _ _ _ _ hpj) hp hij hoj he.symm
  refine ⟨⟨hle, ⟨fun i c hc => ?_, fun i j ci cj p q hi hj hp hq hne ho => ?_⟩, ⟨hg.keep.size, fun r hr hno => hg.keep.same r hr fun x => hno (hown r x), hg.keep.os, hg.keep.tape, hg.keep.output⟩, fun r hr => ?_, fun r hr => ?_⟩, hle'⟩
  · rcases hH i c hc with h1 | ⟨h1, h2, h3⟩
    · obtain ⟨p, hp, hr⟩ := hg.rel.cell i c h1
      exact ⟨p, hle' i p hp, hr.keep lc hle' rfl⟩
    · obtain ⟨p, hp, hr⟩ := h.cell i c h1
      exact ⟨p, hle i p hp, hr.keep lc hle (hg.keep.same _ (h.blk_lt h1 hp) (hside i c p h1 h2 hp))⟩
  · rcases hH i ci hi with a1 | ⟨a1, a2, a3⟩
    · rw [hov i (hin i ci a1)] at hp
      rcases hH j cj hj with b1 | ⟨b1, b2, b3⟩
      · rw [hov j (hin j cj b1)] at hq
        exact hg.rel.inj i j ci cj p q a1 b1 hp hq hne ho
      · obtain ⟨q', hq', _⟩ := h.cell j cj b1
        have := hle j q' hq'; rw [hq] at this; cases this
        have hlt := h.blk_lt b1 hq'
        rcases hg.own _ ⟨i, ci, p, a1, hp, ho, rfl⟩ with h4 | h4
        · omega
        · exact fun e => hside j cj q b1 b2 hq' (by rw [e]; exact h4)
    · obtain ⟨p', hp', _⟩ := h.cell i ci a1
      have := hle i p' hp'; rw [hp] at this; cases this
      rcases hH j cj hj with b1 | ⟨b1, b2, b3⟩
      · rw [hov j (hin j cj b1)] at hq
        have hlt := h.blk_lt a1 hp'
        rcases hg.used _ ⟨j, cj, q, b1, hq, rfl⟩ with h4 | ⟨k, ck, qk, hk, hqk, he⟩
        · omega
        · have hik : i ≠ k := fun e => by subst e; exact a2 _ hk
          rw [← he]; exact h.inj i k ci ck p qk a1 (hs _ _ hk) hp' (Rho.cut_le _ _ _ _ hqk) hik ho
      · obtain ⟨q', hq', _⟩ := h.cell j cj b1
        have := hle j q' hq'; rw [hq] at this; cases this
        exact h.inj i j ci cj p q a1 b1 hp' hq' hne ho
  · obtain ⟨i, c, p, hi, hp, ho, rfl⟩ := hr
    rcases hH i c hi with a1 | ⟨a1, a2, a3⟩
    · rw [hov i (hin i c a1)] at hp
      rcases hg.own _ ⟨i, c, p, a1, hp, ho, rfl⟩ with h4 | h4
      · exact .inl h4
      · exact .inr (hown _ h4)
    · obtain ⟨p', hp', _⟩ := h.cell i c a1
      have := hle i p' hp'; rw [hp] at this; cases this
      exact .inr ⟨i, c, p, a1, hp', ho, rfl⟩
  · obtain ⟨i, c, p, hi, hp, rfl⟩ := hr
    rcases hH i c hi with a1 | ⟨a1, a2, a3⟩
    · rw [hov i (hin i c a1)] at hp
      rcases hg.used _ ⟨i, c, p, a1, hp, rfl⟩ with h4 | h4
      · exact .inl h4
      · exact .inr (hused _ h4)
    · obtain ⟨p', hp', _⟩ := h.cell i c a1
      have := hle i p' hp'; rw [hp] at this; cases this
      exact .inr ⟨i, c, p, a1, hp', rfl⟩
end
end Go.Lm
