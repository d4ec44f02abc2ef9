/- A region that draws: one operation more. -/
import Derived.Test.YtnnadeeoejchpaaLmDraw5
set_option linter.all false
namespace Go.Lm
section
variable {P : Program} {lc : Lc} {F : Fence} {n N D : Nat} {ops : Array Oper} {l : List DI} {call : Caller}
variable {st : Nat → DS} {val : Nat → V} {kd : Nat → Nat} {ρ0 : Rho} {w0 : World} {a0 : Act}
variable {S : Nat → Bool} {c : Nat} {ρ : Rho} {a : Act} {w : World} {i : Nat} {o : Oper} {Q : Exit → Act → World → Prop}

theorem RegOk.bit_lt (R : RegOk P N D ops l) : ∀ (i j : Nat), i < l.length → (bf l i).testBit j = true → j < i := fun i => by
  induction i using Nat.strongRecOn with
  | _ i ih =>
    intro j hi hj
    rw [R.len] at hi
    have ho : ops[i]? = some ops[i] := by simp [hi]
    obtain ⟨e, he, hb, h⟩ := R.bit i _ j ho hj
    have hlt := R.low i _ ho e he hb
    rcases h with rfl | ⟨h1, h2⟩
    · exact hlt
    · have := ih e.on h1 j (by rw [R.len]; omega) h2; omega

/-- an operation is run over a part -/
theorem Ready.run (T : Stat P N D ops l call st val kd) (I : Inv lc N ops l st val kd ρ0 w0 a0 S c ρ a w) (R : Ready ops S i o) (hO : OpsOk P lc F n call) {s1 u : St} {v : V} {K : Act → World → Prop}
    (hrun : compOp P [] o call (subE (usOf o) (st i).e) s1 ret = some (v, u)) (hn : (st i).c.n ≤ s1.n) (hsub : ∀ id x, Live s1 id x → LiveF (HS l st kd S c) id x) (hdom : ∀ id x, s1.h.get id = some x → id < s1.n)
    (hvs : ∀ id x, Live s1 id x → CellVS s1.n x) (hK : ∀ ρ1 w1 rv, Goes lc (ρ.cut s1.n) s1 w ρ1 u w1 → VR ρ1 v rv → K (a.put o.dst rv) w1) : o.wpIn F n P a w K Q :=
  hO o [] _ s1 (ρ.cut s1.n) w a ret (v, u) K Q (I.go.rel.part hsub hdom hvs) (R.envR T I hn) AlOk.nil hrun fun v' s' ρ' w' rv hk hg hv => by
    have hk : some (v', s') = some (v, u) := hk
    cases hk; exact hK ρ' w' rv hg hv

theorem Ready.free (T : Stat P N D ops l call st val kd) (I : Inv lc N ops l st val kd ρ0 w0 a0 S c ρ a w) (R : Ready ops S i o) {id : Nat} (h1 : (st i).c.n ≤ id) (h2 : id < (st (i + 1)).c.n) : ρ id = none := by
  have hi := T.lt R.op
  cases hp : ρ id with
  | none => rfl
  | some p =>
    exfalso
    rcases I.ids id p hp with h | ⟨k, hk, hS, h3, h4⟩
    · have := T.tr.n_mono (Nat.zero_le i) (by omega); omega
    · rcases Nat.lt_trichotomy k i with h | h | h
      · have := T.tr.n_mono (i := k + 1) (j := i) (by omega) (by omega); omega
      · subst h; rw [R.no] at hS; cases hS
      · have := T.tr.n_mono (i := i + 1) (j := k) (by omega) (by omega); omega

theorem over_ids {ρ ρ1 : Rho} {s1 u : St} {w w1 : World} (hg : Goes lc (ρ.cut s1.n) s1 w ρ1 u w1) : ∀ id p, (ρ1.over u.n ρ) id = some p → ρ id = some p ∨ (s1.n ≤ id ∧ id < u.n) := fun id p hp => by
  unfold Rho.over at hp
  by_cases h : id < u.n
  · rw [if_pos h] at hp
    by_cases h2 : id < s1.n
    · exact .inl (Rho.cut_le _ _ _ _ (hg.fresh id p hp h2))
    · exact .inr ⟨by omega, h⟩
  · rw [if_neg h] at hp; exact .inl hp

theorem HS_keep (hk : kd i ≠ 1) {id : Nat} {x : Cell} (h : LiveF (HS l st kd (ins S i) c) id x) : LiveF (HS l st kd S c) id x :=
  ⟨h.1.imp (fun ⟨f, hf, r⟩ => ⟨f, hf.old (fun e => by subst e; exact hk hf.2.2.1), r⟩) (fun h => h), h.2⟩

theorem step_ok (T : Stat P N D ops l call st val kd) (I : Inv lc N ops l st val kd ρ0 w0 a0 S c ρ a w) (R : Ready ops S i o) (hO : OpsOk P lc F n call) (hF : ∀ f, F.fn f) :
    wpOpIn F n P ops Q i (fun a' w' => ∃ c' ρ', Inv lc N ops l st val kd ρ0 w0 a0 (ins S i) c' ρ' a' w') a w := by
  unfold wpOpIn
  rw [R.op]
  dsimp only
  have hi := T.lt R.op
  obtain ⟨m, hm⟩ := T.reg.get i o R.op
  have hs := T.tr.step i _ hm
  have hbi := bf_some hm
  have hnm := T.tr.n_step hi
  generalize hst : st (i + 1) = s' at hs
  generalize hv : val i = v at hs
  generalize hk : kd i = k at hs
  cases hs with
  | skip hw =>
    rw [if_neg (by rw [R.wanted T I hw]; simp)]
    refine ⟨fun f _ => hF f, c, ρ, I.after T R ((GoesF.refl I.go.rel).less fun id x hx => HS_keep (by omega) hx) (by rw [hv]; exact .tup .nil) (by rw [hv]; exact .mk (fun e => by simp [undefV, vTup] at e) .nil)
      (I.cur.keep T (by omega)) (fun id p hp => .inl hp) I.dom fun h => by omega⟩
  | P hw hcls hrun hhist hvs =>
    rename_i u0
    rw [if_pos (R.wanted T I hw)]
    -- over what there is now
    have key : ∃ sides n1 u, compOp P [] o call (subE (usOf o) (st i).e) ⟨addSides (bf l i) sides (st c).c.h, n1⟩ ret = some (v, u) ∧ (st i).c.n ≤ n1 ∧ (st c).c.n ≤ n1 ∧
        ∀ y ∈ sides, (bf l i).testBit y.j = true → SideOn l kd S y.j ∧ y.id = (st y.j).c.n ∧ y.c = cellAt st y.j ∧ (st (y.j + 1)).c.n ≤ n1 := by
      obtain ⟨hc1, hc2, hc3⟩ := I.cur
      rcases Nat.lt_or_ge i c with hic | hic
      · -- an effect that stands behind is done
        rcases hc2 with rfl | ⟨e, rfl, hek, heS⟩
        · omega
        have hie : i < e := by
          rcases Nat.lt_or_ge i e with h | h
          · exact h
          · have : i = e := by omega
            subst this; omega
        have hmem := T.tr.pend_has hk hm (i := e) (by omega) hie fun e' h1 h2 h3 => R.not_bef T I (by omega) (I.bef T (by omega) heS (T.tr.eff_bef h2 (by omega) h3 hek))
        have hside := fun y hy => T.tr.sides_mem (i := e) (by omega) (x := y) hy
        obtain ⟨d, hd, hse⟩ := T.tr.get (i := e) (by omega)
        have hbe := bf_some hd
        have hnb := R.not_bef T I (e := e) (by omega) heS
        have hne := (T.tr.n_step (i := e) (by omega)).1
        have hni := T.tr.n_mono (i := i) (j := e) (by omega) (by omega)
        have hnf := fun f (hf : f < e) => T.tr.n_mono (i := f + 1) (j := e) (by omega) (by omega)
        generalize hst2 : st (e + 1) = s2 at hse hne
        generalize val e = v2 at hse
        rw [hek] at hse
        cases hse with
        | E _ _ _ _ _ hpend =>
          obtain ⟨u, hu⟩ := hpend _ (mem_keepPend.2 ⟨hmem, by rw [← hbe]; exact hnb⟩)
          rw [hv] at hu
          refine ⟨keepSides d.bef (st e).sides, _, u, by rw [hbi]; exact hu, Nat.le_trans hni hne, Nat.le_refl _, fun y hy hb => ?_⟩
          obtain ⟨hy, hyb⟩ := mem_keepSides.1 hy
          obtain ⟨h1, h2, h3, h4, h5⟩ := hside y hy
          refine ⟨⟨by omega, R.bef T I hb, h2, fun e' he' hS' hk' => ?_⟩, h3, h4, Nat.le_trans (hnf _ h1) hne⟩
          rcases Nat.lt_trichotomy e' y.j with h | h | h
          · cases hb' : (bf l e').testBit y.j with
            | false => rfl
            | true => have := T.reg.bit_lt e' y.j he' hb'; omega
          · subst h; omega
          · have hlt := hc3 e' he' hk' hS'
            rcases Nat.lt_or_ge e' e with h' | h'
            · exact h5 e' h h' hk'
            · have : e' = e := by omega
              subst this; rw [hbe]; exact hyb
      · have hsd : ∀ y ∈ (st i).sides, (bf l i).testBit y.j = true → SideOn l kd S y.j ∧ y.id = (st y.j).c.n ∧ y.c = cellAt st y.j ∧ (st (y.j + 1)).c.n ≤ (st i).c.n := fun y hy hb => by
          obtain ⟨h1, h2, h3, h4, h5⟩ := T.tr.sides_mem (i := i) (by omega) hy
          refine ⟨⟨by omega, R.bef T I hb, h2, fun e' he' hS' hk' => ?_⟩, h3, h4, T.tr.n_mono (by omega) (by omega)⟩
          rcases Nat.lt_trichotomy e' y.j with h | h | h
          · cases hb' : (bf l e').testBit y.j with
            | false => rfl
            | true => have := T.reg.bit_lt e' y.j he' hb'; omega
          · subst h; omega
          · have := hc3 e' he' hk' hS'
            exact h5 e' h (by omega) hk'
        by_cases hno : ∀ e, c ≤ e → e < i → kd e ≠ 2
        · rw [hbi] at hsd ⊢
          refine ⟨(st i).sides, (st i).c.n, u0, ?_, Nat.le_refl _, T.tr.n_mono hic (by omega), hsd⟩
          rw [← T.tr.c_same hic (by omega) hno]; exact hrun
        · -- the first effect ahead of it that is not done
          have : ∃ e, c ≤ e ∧ e < i ∧ kd e = 2 ∧ ∀ e', c ≤ e' → e' < e → kd e' ≠ 2 := by
            have hex : ∃ e, c ≤ e ∧ e < i ∧ kd e = 2 := by
              false_or_by_contra
              rename_i hcon
              exact hno fun e h1 h2 h3 => hcon ⟨e, h1, h2, h3⟩
            obtain ⟨e, h1, h2, h3⟩ := hex
            induction e using Nat.strongRecOn with
            | _ e ih =>
              by_cases hm : ∃ e', c ≤ e' ∧ e' < e ∧ kd e' = 2
              · obtain ⟨e', a1, a2, a3⟩ := hm
                exact ih e' a2 a1 (by omega) a3
              · exact ⟨e, h1, h2, h3, fun e' a1 a2 a3 => hm ⟨e', a1, a2, a3⟩⟩
          obtain ⟨e, h1, h2, h3, h4⟩ := this
          obtain ⟨y, hy, hyj, hyh⟩ := T.tr.hist_mem h2 (by omega) h3
          have hnb : (bf l i).testBit e = false := by
            cases hb : (bf l i).testBit e with
            | false => rfl
            | true =>
              have := R.bef T I hb
              have := hc3 e (by omega) h3 this; omega
          obtain ⟨u, hu⟩ := hhist y hy (by rw [hyj, ← hbi]; exact hnb)
          rw [hyh, T.tr.c_same h1 (by omega) h4] at hu
          exact ⟨(st i).sides, (st i).c.n, u, by rw [hbi]; exact hu, Nat.le_refl _, T.tr.n_mono hic (by omega), hsd⟩
    obtain ⟨sides, n1, u, hrun, hn1, hn2, hsides⟩ := key
    have hu : u = ⟨addSides (bf l i) sides (st c).c.h, n1⟩ := by
      obtain ⟨v', h⟩ := compOp_pure o hcls _ _ _ _ _ hrun
      have h : some (v', _) = some (v, u) := h
      cases h; rfl
    subst hu
    obtain ⟨hsub, hdom, hcv⟩ := I.part T hn2 hsides
    refine R.run T I hO hrun hn1 hsub hdom hcv fun ρ1 w1 rv hg hvr => ?_
    obtain ⟨hgo, hle⟩ := frame (H' := HS l st kd (ins S i) c) I.go.rel hsub hg (fun id h1 h2 => absurd h2 (by show ¬ id < n1; have : n1 ≤ id := h1; omega)) fun id x hx => by
      have hx := HS_keep (by omega) hx
      by_cases hl : ∃ x', Live ⟨addSides (bf l i) sides (st c).c.h, n1⟩ id x'
      · obtain ⟨x', hl⟩ := hl
        have := I.funct T hx.1 (hsub id x' hl).1
        subst this; exact .inl hl
      · exact .inr ⟨hx, fun x' h => hl ⟨x', h⟩, fun h => by have h1 : n1 ≤ id := h.1; have h2 : id < n1 := h.2; omega⟩
    refine ⟨c, _, I.after T R hgo (by rw [hv]; exact hvr.mono hle) (by rw [hv, hst]; exact hvs) (I.cur.keep T (by omega)) (fun id p hp => ?_) I.dom fun h => by omega⟩
    rcases over_ids hg id p hp with h | ⟨h1, h2⟩
    · exact .inl h
    · have h1 : n1 ≤ id := h1
      have h2 : id < n1 := h2
      omega
  | F hw hrun hn' =>
    rename_i s''
    rw [if_pos (R.wanted T I hw)]
    have hnone : ∀ id x, ¬ Live ⟨.nl, (st i).c.n⟩ id x := fun id x h => by have := h.1; simp at this
    refine R.run T I hO hrun (Nat.le_refl _) (fun id x h => absurd h (hnone id x)) (fun id x h => by simp at h) (fun id x h => absurd h (hnone id x)) fun ρ1 w1 rv hg hvr => ?_
    have hn2 : (st (i + 1)).c.n = s''.n := by rw [hst]
    have hcell : cellAt st i = s''.at (st i).c.n := by unfold cellAt; rw [hst]
    have hnb := fun e (he : e < l.length) (hS : S e = true) => R.not_bef T I he hS
    obtain ⟨hgo, hle⟩ := frame (H' := HS l st kd (ins S i) c) I.go.rel (fun id x h => absurd h (hnone id x)) hg (fun id h1 h2 => R.free T I h1 (by rw [hn2]; exact h2)) fun id x hx => by
      have hlive := hx.2
      rcases hx.1 with ⟨f, hf, h1, h2⟩ | h
      · by_cases hfi : f = i
        · subst hfi
          rw [hcell] at h2
          subst h2; rw [← h1]
          exact .inl (live_at hlive)
        · refine .inr ⟨⟨.inl ⟨f, hf.old hfi, h1, h2⟩, hlive⟩, fun x' => hnone id x', fun hr => ?_⟩
          have : id = (st i).c.n := by have h3 := hr.1; have h4 := hr.2; simp only at h3; omega
          exact hfi (T.n_inj hf.1 hi hf.2.2.1 hk (h1.trans this))
      · refine .inr ⟨⟨.inr h, hlive⟩, fun x' => hnone id x', fun hr => ?_⟩
        have : id = (st i).c.n := by have h3 := hr.1; have h4 := hr.2; simp only at h3; omega
        rw [this, I.alpha T hi hk fun e he hS _ => hnb e he hS] at h; cases h
    refine ⟨c, _, I.after T R hgo (by rw [hv]; exact hvr.mono hle) (by rw [hv, hn2]; exact hvr.inScope hg.rel.scope) (I.cur.keep T (by omega)) (fun id p hp => ?_) I.dom fun _ ht => ?_⟩
    · rw [hn2]; exact over_ids hg id p hp
    · rw [hn2, hcell] at *
      obtain ⟨p, hp, hr⟩ := hg.rel.cell _ _ (live_at ht)
      exact hr.inScope hg.rel.scope
  | E hw hall hrun hle0 hns hpend =>
    rename_i c'
    rw [if_pos (R.wanted T I hw)]
    obtain ⟨hc1, hc2, hc3⟩ := I.cur
    have heff : ∀ e, e < l.length → kd e = 2 → S e = true → e < i := fun e he hke hS => by
      rcases Nat.lt_trichotomy e i with h | h | h
      · exact h
      · subst h; rw [R.no] at hS; cases hS
      · have := R.not_bef T I he hS
        rw [T.tr.eff_bef h he hk hke] at this; cases this
    have hci : c ≤ i := by
      rcases hc2 with rfl | ⟨e, rfl, h1, h2⟩
      · omega
      · have := heff e (by omega) h1 h2; omega
    have hsame : (st i).c.h = (st c).c.h := T.tr.c_same hci (by omega) fun e h1 h2 h3 => by
      have hS : S e = true := R.bef T I (T.tr.eff_bef h2 hi h3 hk)
      have := hc3 e (by omega) h3 hS; omega
    rw [hsame] at hrun
    have hrun : compOp P [] o call (subE (usOf o) (st i).e) ⟨addSides (bf l i) (st i).sides (st c).c.h, (st i).c.n⟩ ret = some (v, c') := by rw [hbi]; exact hrun
    have hsides : ∀ y ∈ (st i).sides, (bf l i).testBit y.j = true → SideOn l kd S y.j ∧ y.id = (st y.j).c.n ∧ y.c = cellAt st y.j ∧ (st (y.j + 1)).c.n ≤ (st i).c.n := fun y hy hb => by
      obtain ⟨h1, h2, h3, h4, h5⟩ := T.tr.sides_mem (i := i) (by omega) hy
      refine ⟨⟨by omega, R.bef T I hb, h2, fun e' he' hS' hk' => ?_⟩, h3, h4, T.tr.n_mono (by omega) (by omega)⟩
      rcases Nat.lt_trichotomy e' y.j with h | h | h
      · cases hb' : (bf l e').testBit y.j with
        | false => rfl
        | true => have := T.reg.bit_lt e' y.j he' hb'; omega
      · subst h; omega
      · exact h5 e' h (heff e' he' hk' hS') hk'
    obtain ⟨hsub, hdom, hcv⟩ := I.part T (T.tr.n_mono hci (by omega)) hsides
    refine R.run T I hO hrun (Nat.le_refl _) hsub hdom hcv fun ρ1 w1 rv hg hvr => ?_
    have hn2 : (st (i + 1)).c = c' := by rw [hst]
    obtain ⟨hgo, hle⟩ := frame (H' := HS l st kd (ins S i) (i + 1)) I.go.rel hsub hg (fun id h1 h2 => R.free T I h1 (by rw [hn2]; exact h2)) fun id x hx => by
      have hlive := hx.2
      rcases hx.1 with ⟨f, hf, h1, h2⟩ | h
      · have hfi : f ≠ i := fun e => by subst e; have := hf.2.2.1; omega
        have hbf : (bf l i).testBit f = false := hf.2.2.2 i hi (ins_self _ _) hk
        have hfo := hf.old hfi
        refine .inr ⟨⟨.inl ⟨f, hfo, h1, h2⟩, hlive⟩, fun x' hx' => ?_, fun hr => ?_⟩
        · rcases addSides_get hx'.1 with ⟨y, hy, hb, h3, h4⟩ | ⟨_, h3⟩
          · obtain ⟨a1, a2, _, _⟩ := hsides y hy hb
            have := T.n_inj a1.1 hf.1 a1.2.2.1 hf.2.2.1 (a2.symm.trans (h3.trans h1.symm))
            rw [this] at hb; rw [hb] at hbf; cases hbf
          · rw [← h1, I.alpha T hf.1 hf.2.2.1 hfo.2.2.2] at h3; cases h3
        · have h3 : (st i).c.n ≤ id := hr.1
          have h4 : id < c'.n := hr.2
          rw [← hn2] at h4
          rcases Nat.lt_trichotomy f i with h | h | h
          · have := (T.tr.n_step hf.1).2 hf.2.2.1
            have := T.tr.n_mono (i := f + 1) (j := i) (by omega) (by omega); omega
          · exact hfi h
          · have := T.tr.n_mono (i := i + 1) (j := f) (by omega) (by have := hf.1; omega); omega
      · rw [hn2] at h
        exact .inl ⟨h, hlive⟩
    refine ⟨i + 1, _, I.after T R hgo (by rw [hv]; exact hvr.mono hle) (by rw [hv, hn2]; exact hvr.inScope hg.rel.scope) ⟨by omega, .inr ⟨i, rfl, hk, ins_self _ _⟩, fun e he hke hS => ?_⟩ (fun id p hp => ?_) (fun j x hx => ?_) fun h => by omega⟩
    · rcases ins_true hS with rfl | hS
      · omega
      · have := heff e he hke hS; omega
    · rw [hn2]; exact over_ids hg id p hp
    · rw [hn2] at hx ⊢
      refine ⟨hg.rel.dom j x hx, fun ht => ?_⟩
      obtain ⟨p, hp, hr⟩ := hg.rel.cell j x ⟨hx, ht⟩
      exact hr.inScope hg.rel.scope
end
end Go.Lm
