/- A region that draws is right in the walk. -/
import Derived.Test.YtnnadeeoejchpaaLmDraw6
set_option linter.all false
namespace Go.Lm

/-- how many of n are not done -/
def cnt (S : Nat → Bool) : Nat → Nat
  | 0 => 0
  | n + 1 => cnt S n + if S n then 0 else 1
theorem cnt_ins {S : Nat → Bool} {i : Nat} (hS : S i = false) : ∀ {n : Nat}, i < n → cnt (ins S i) n + 1 = cnt S n
  | 0, h => by omega
  | n + 1, h => by
    unfold cnt
    by_cases e : i = n
    · subst e
      have : ∀ m, m ≤ i → cnt (ins S i) m = cnt S m := fun m => by
        induction m with
        | zero => intro _; rfl
        | succ m ih => intro hm; unfold cnt; rw [ih (by omega), ins_ne (by omega)]
      rw [this i (Nat.le_refl _), ins_self, hS]; simp
    · have := cnt_ins hS (n := n) (by omega)
      rw [ins_ne (fun h => e h.symm)]; omega
theorem cnt_zero {S : Nat → Bool} : ∀ {n : Nat}, cnt S n = 0 → ∀ k, k < n → S k = true
  | 0, _, k, hk => by omega
  | n + 1, h, k, hk => by
    unfold cnt at h
    by_cases e : k = n
    · subst e
      cases hS : S k with
      | true => rfl
      | false => rw [hS] at h; simp at h
    · exact cnt_zero (n := n) (by omega) k (by omega)

section
variable {P : Program} {lc : Lc} {F : Fence} {n N D : Nat} {ops : Array Oper} {l : List DI} {call : Caller}
variable {st : Nat → DS} {val : Nat → V} {kd : Nat → Nat} {ρ0 : Rho} {w0 : World} {a0 : Act}
variable {S : Nat → Bool} {c : Nat} {ρ : Rho} {a : Act} {w : World} {i : Nat} {o : Oper} {Q : Exit → Act → World → Prop}

def doneOf (listed : Array Bool) : Nat → Bool := fun k => listed.getD k true
theorem doneOf_set {listed : Array Bool} {i : Nat} (hi : i < listed.size) : doneOf (listed.setIfInBounds i true) = ins (doneOf listed) i := by
  funext k
  unfold doneOf ins
  by_cases e : k = i
  · subst e; simp [hi]
  · rw [if_neg e]
    simp only [Array.getD_eq_getD_getElem?]
    rw [Array.getElem?_setIfInBounds_ne (Ne.symm e)]

theorem ready_of (T : Stat P N D ops l call st val kd) {listed : Array Bool} (hsz : listed.size = ops.size) {i : Nat} (h : i ∈ Region.ready .any ops listed) : ∃ o, Ready ops (doneOf listed) i o := by
  obtain ⟨h1, o, h2, h3⟩ := mem_ready.1 h
  refine ⟨o, h2, h1, fun e he hb => ?_⟩
  have h4 := h3 e he hb
  unfold doneOf
  rw [Array.getD_eq_getD_getElem?] at h4 ⊢
  cases hx : listed[e.on]? with
  | none => rfl
  | some b => rw [hx] at h4; exact h4
theorem all_done (T : Stat P N D ops l call st val kd) {listed : Array Bool} (hsz : listed.size = ops.size) (h : Region.ready .any ops listed = []) : ∀ k, k < ops.size → doneOf listed k = true := by
  intro k
  induction k using Nat.strongRecOn with
  | _ k ih =>
    intro hk
    cases hd : doneOf listed k with
    | true => rfl
    | false =>
      exfalso
      have : k ∈ Region.ready .any ops listed := by
        have ho : ops[k]? = some ops[k] := by simp [hk]
        refine mem_ready.2 ⟨hd, ops[k], ho, fun e he hb => ?_⟩
        have hlt := T.reg.low k _ ho e he hb
        have h1 := ih e.on hlt (by omega)
        unfold doneOf at h1
        rw [Array.getD_eq_getD_getElem?] at h1 ⊢
        have : listed[e.on]? = some listed[e.on] := by simp [show e.on < listed.size by omega]
        rw [this] at h1 ⊢; exact h1
      rw [h] at this; cases this

theorem any_ok (T : Stat P N D ops l call st val kd) (hO : OpsOk P lc F n call) (hF : ∀ f, F.fn f)
    (hQ : ∀ S c ρ a w, Inv lc N ops l st val kd ρ0 w0 a0 S c ρ a w → (∀ k, k < l.length → S k = true) → Q .normal a w) : ∀ (fuel : Nat) (listed : Array Bool) (c : Nat) (ρ : Rho) (a : Act) (w : World),
    listed.size = ops.size → cnt (doneOf listed) ops.size ≤ fuel → Inv lc N ops l st val kd ρ0 w0 a0 (doneOf listed) c ρ a w → wpAnyIn F n P .any ops Q fuel listed a w
  | 0, listed, c, ρ, a, w, hsz, hc, I => by
    have hall := cnt_zero (S := doneOf listed) (n := ops.size) (by omega)
    refine ⟨?_, hQ _ _ _ _ _ I fun k hk => hall k (by rw [← T.reg.len]; exact hk)⟩
    cases hr : Region.ready .any ops listed with
    | nil => rfl
    | cons i r =>
      obtain ⟨o, R⟩ := ready_of T hsz (i := i) (by rw [hr]; exact List.mem_cons_self ..)
      have := hall i (by rw [← T.reg.len]; exact T.lt R.op)
      rw [R.no] at this; cases this
  | fuel + 1, listed, c, ρ, a, w, hsz, hc, I => by
    refine ⟨fun h => hQ _ _ _ _ _ I fun k hk => all_done T hsz h k (by rw [← T.reg.len]; exact hk), fun i hi => ?_⟩
    obtain ⟨o, R⟩ := ready_of T hsz hi
    have hlt : i < ops.size := by rw [← T.reg.len]; exact T.lt R.op
    refine wpOpIn_mono (fun a' w' ⟨c', ρ', I'⟩ => ?_) (step_ok T I R hO hF)
    rw [← doneOf_set (by omega)] at I'
    refine any_ok T hO hF hQ fuel _ c' ρ' a' w' (by simp [hsz]) ?_ I'
    have := cnt_ins R.no hlt
    rw [doneOf_set (by omega)]; omega
end

theorem draws_ok {P : Program} {lc : Lc} (hm : P.follows .mixedOrders = true) : AllDraws P lc := by
  intro F n call hW hC N D id ops e s ρ w a k q Q hdo hds hB hk hR hE hD hN hQ
  refine wpIn_region_any hm ?_
  obtain ⟨st, val, kd, h0, htr, hfin⟩ := evD_some (show evD _ 0 call ⟨e, s, [], [], []⟩ (fun d => k .nrm d.e ⟨addSides allBits d.sides d.c.h, d.c.n⟩) = some q from hk)
  generalize hl : ((ops.toList.zip (masks ops.toList [])).map fun p => compDI P D ops p.2 p.1) = l at htr hfin
  have hreg := regOk (P := P) (D := D) hdo hds
  rw [hl] at hreg
  rw [Nat.zero_add] at hfin
  have hGd := Goes.drawn hR (w.drawn + 1)
  have hscope := hR.scope
  have T : Stat P N D ops l call st val kd := ⟨⟨fun i x hx => by have := htr i x hx; simpa only [Nat.zero_add] using this, by rw [h0], by rw [h0]⟩, hreg, by rw [h0]; exact hD, fun t v hv => by rw [h0] at hv ⊢; exact (hE t v hv).inScope hscope, hB⟩
  have hsz : (Array.replicate ops.size false).size = ops.size := by simp
  have hS0 : ∀ k, k < ops.size → doneOf (Array.replicate ops.size false) k = false := fun k hk => by
    unfold doneOf; simp [Array.getD_eq_getD_getElem?, hk]
  have hlive : ∀ {f}, ¬ SideOn l kd (doneOf (Array.replicate ops.size false)) f := fun {f} h => by
    have := hS0 f (by rw [← hreg.len]; exact h.1)
    rw [h.2.1] at this; cases this
  have hcl0 : ∀ k, k < l.length → doneOf (Array.replicate ops.size false) k = false := fun k hk => hS0 k (by rw [← hreg.len]; exact hk)
  have I0 : Inv lc N ops l st val kd ρ { w with drawn := w.drawn + 1 } a (doneOf (Array.replicate ops.size false)) 0 ρ a { w with drawn := w.drawn + 1 } := by
    refine ⟨fun k ok hok hS => ?_, ⟨Nat.zero_le _, .inl rfl, fun e he _ hS => ?_⟩, ?_, hN, rfl, fun t v hv => ?_, fun k hk hS => ?_, fun i p hp => .inl ?_, fun i p hp _ => hp, fun i x hx => ?_, fun f hf hS => ?_⟩
    · have hkl : k < ops.size := by
        rcases Nat.lt_or_ge k ops.size with h | h
        · exact h
        · rw [Array.getElem?_eq_none h] at hok; cases hok
      rw [hS0 k hkl] at hS; cases hS
    · rw [hcl0 e he] at hS; cases hS
    · have hst0 : (st 0).c = s := by rw [h0]
      rw [hst0]
      refine (GoesF.refl (RelF.of_rel hGd.rel)).less fun i x hx => ⟨?_, hx.2⟩
      rcases hx.1 with ⟨f, hf, _⟩ | h
      · exact absurd hf hlive
      · rw [hst0] at h; exact h
    · rw [view_eq (i := 0) (Nat.zero_le _) fun k hk _ => by rw [hcl0 k hk]; simp] at hv
      have hv : (st 0).e.get t = some v := hv
      rw [h0] at hv; exact hE t v hv
    · rw [hcl0 k hk] at hS; cases hS
    · rw [h0]; exact hscope i p hp
    · rw [h0] at hx ⊢
      refine ⟨hR.dom i x hx, fun ht => ?_⟩
      obtain ⟨p, hp, hr⟩ := hR.cell i x ⟨hx, ht⟩
      exact hr.inScope hscope
    · rw [hcl0 f hf] at hS; cases hS
  refine any_ok T (opsOk hW hC) hW.fn (fun S c ρ' a' w' I hall => ?_) ops.size (Array.replicate ops.size false) 0 ρ a _ hsz ?_ I0
  · -- the end
    have hL := Nat.le_refl l.length
    obtain ⟨hc1, hc2, hc3⟩ := I.cur
    have hsame : (st l.length).c.h = (st c).c.h := T.tr.c_same hc1 hL fun e h1 h2 h3 => by have := hc3 e h2 h3 (hall e h2); omega
    have hsides : ∀ y ∈ (st l.length).sides, allBits.testBit y.j = true → SideOn l kd S y.j ∧ y.id = (st y.j).c.n ∧ y.c = cellAt st y.j ∧ (st (y.j + 1)).c.n ≤ (st l.length).c.n := fun y hy _ => by
      obtain ⟨h1, h2, h3, h4, h5⟩ := T.tr.sides_mem hL hy
      refine ⟨⟨h1, hall _ h1, h2, fun e' he' _ hk' => ?_⟩, h3, h4, T.tr.n_mono (by omega) hL⟩
      rcases Nat.lt_trichotomy e' y.j with h | h | h
      · cases hb' : (bf l e').testBit y.j with
        | false => rfl
        | true => have := T.reg.bit_lt e' y.j he' hb'; omega
      · subst h; omega
      · exact h5 e' h he' hk'
    obtain ⟨hsub, hdom, _⟩ := I.part T (T.tr.n_mono hc1 hL) hsides
    rw [← hsame] at hsub hdom
    have hst0 : (st 0).c = s := by rw [h0]
    have hgo : Goes lc ρ s { w with drawn := w.drawn + 1 } ρ' ⟨addSides allBits (st l.length).sides (st l.length).c.h, (st l.length).c.n⟩ w' := by
      have hlt := T.tr.n_mono (Nat.zero_le l.length) hL
      have hgo := I.go
      rw [hst0] at hgo hlt
      have hid : ∀ i p, ρ' i = some p → i < (st l.length).c.n := fun i p hp => by
        rcases I.ids i p hp with h | ⟨k, hk, _, _, h⟩
        · rw [hst0] at h; omega
        · have := T.tr.n_mono (i := k + 1) (j := l.length) (by omega) hL; omega
      refine ⟨hgo.le, ⟨fun i x hx => hgo.rel.cell i x (hsub i x hx), hid, hdom, fun i j ci cj p q hi hj => hgo.rel.inj i j ci cj p q (hsub _ _ hi) (hsub _ _ hj)⟩,
        ⟨hgo.keep.size, hgo.keep.same, hgo.keep.os, hgo.keep.tape, hgo.keep.output⟩, fun r ⟨i, x, p, a1, a2⟩ => hgo.own r ⟨i, x, p, hsub _ _ a1, a2⟩, fun i p hp hi => I.fresh i p hp (by rw [hst0]; exact hi), hlt,
        fun r ⟨i, x, p, a1, a2⟩ => hgo.used r ⟨i, x, p, hsub _ _ a1, a2⟩⟩
    have hview : ∀ t, (st l.length).e.get t = viewS l val (st 0).e S l.length t := fun t => by
      rw [T.tr.env hL t]
      exact (view_eq (i := l.length) hL fun k hk _ => by rw [hall k hk]; simp [hk]).symm
    exact hQ _ _ ρ' w' a' hfin (hGd.trans hgo) (fun t v hv => I.env t v (by rw [← hview]; exact hv)) (fun t ht => by rw [hview]; exact view_noD T ht _ hL) I.sz I.df
  · -- all are to be done
    have : ∀ (S : Nat → Bool) (m : Nat), cnt S m ≤ m := fun S m => by
      induction m with
      | zero => exact Nat.le_refl _
      | succ m ih => unfold cnt; split <;> omega
    exact this _ _
end Go.Lm
