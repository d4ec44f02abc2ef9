/- A region, walked to its end. -/
import Derived.Test.YtnnadeeoejchpaaLmReg2
set_option linter.all false
namespace Go.Lm
section
variable {P : Program} {lc : Lc}
variable {F : Fence} {n : Nat} {ops : Array Oper} {Q : Exit → Act → World → Prop} {call : Caller} {q : V × St}

theorem yielded_iff {N : Nat} {a : Act} (hN : a.tmps.size = N) (hB : N ≤ 1000000) (j : Nat) (b : Bool) : yielded ops a.tmps j = some b ↔ a.eval (.tmp (slotOf ops j)) = .bool b := by
  unfold yielded slotOf
  show _ ↔ a.tmps.getD _ undef = .bool b
  cases h : (ops[j]?).bind (·.dst) with
  | none =>
    have : a.tmps.getD ((none : Option Nat).getD 1000000) undef = undef := by
      rw [Array.getD_eq_getD_getElem?]; simp [Array.getElem?_eq_none (show a.tmps.size ≤ 1000000 by omega)]
    rw [this]
    constructor
    · intro hh; simp at hh
    · intro hh; simp [undef] at hh
  | some d =>
    simp only [Option.bind_some, Option.getD_some, Array.getD_eq_getD_getElem?]
    cases h2 : a.tmps[d]? with
    | none =>
      constructor
      · intro hh; simp at hh
      · intro hh; simp [undef] at hh
    | some v => simp only [Option.getD_some]; cases v <;> simp

theorem region_ok {N D : Nat} {ke : KE} (hB : N ≤ 1000000) (hF : ∀ f, F.fn f) (hO : OpsOk P lc F n call) : ∀ (l : List Oper) (A : Al) (e : Env) (s : St) (ρ : Rho) (w : World) (a : Act),
    compRegion P N D ops l A call e s ke = some q → Rel lc ρ s w → EnvR ρ e a → AlOk ρ A a → NoD D e → a.tmps.size = N →
    (∀ e' s' ρ' w' a', ke e' s' = some q → Goes lc ρ s w ρ' s' w' → EnvR ρ' e' a' → NoD D e' → a'.tmps.size = N → a'.defers = a.defers → Q .normal a' w') →
    wpListIn F n P ops Q l a w
  | [], A, e, s, ρ, w, a, h, hR, hE, hA, hD, hN, hQ => hQ e s ρ w a h (Goes.refl hR) hE hD hN rfl
  | o :: l, A, e, s, ρ, w, a, h, hR, hE, hA, hD, hN, hQ => by
    have cont : ∀ {A' : Al} {e' : Env} {s' : St} {ρ' : Rho} {w' : World} {a' : Act}, compRegion P N D ops l A' call e' s' ke = some q → Goes lc ρ s w ρ' s' w' → EnvR ρ' e' a' → AlOk ρ' A' a' → NoD D e' → a'.tmps.size = N → a'.defers = a.defers →
        wpListIn F n P ops Q l a' w' := fun h hg hE hA hD hN hde =>
      region_ok hB hF hO l _ _ _ _ _ _ h hg.rel hE hA hD hN fun e2 s2 ρ2 w2 a2 hk hg2 hE2 hD2 hN2 hd2 => hQ e2 s2 ρ2 w2 a2 hk (hg.trans hg2) hE2 hD2 hN2 (hd2.trans hde)
    have hdef : ∀ (d : Option Nat) (v : Value), (a.put d v).defers = a.defers := fun d v => by cases d <;> rfl
    simp only [compRegion, killK_eq, onK_eq, ifB_eq] at h
    by_cases hdo : dstOk N o.dst = true
    · rw [if_pos hdo] at h
      cases hg : o.guard with
      | none =>
        rw [hg] at h
        refine wpListIn_plain hg fun K hK => ?_
        cases hds : o.dst with
        | none =>
          rw [hds] at h
          refine hO o A e s ρ w a _ q K Q hR hE hA h fun v s' ρ' w' rv hk hgo hv => hK _ _ ?_
          rw [hds]
          exact cont hk hgo (hE.mono hgo.le) (hA.mono hgo.le) hD hN rfl
        | some d =>
          rw [hds] at h
          have hlt : d < a.tmps.size := by rw [hN]; rw [hds] at hdo; simpa [dstOk] using hdo
          dsimp only at h
          cases hb : D.testBit d with
          | false =>
            rw [hb] at h; simp only [Bool.false_eq_true, if_false] at h
            refine hO o A e s ρ w a (fun v s => e.setK d v fun e => compRegion P N D ops l ((d, .val v) :: A.kill d) call e s ke) q K Q hR hE hA h fun v s' ρ' w' rv hk hgo hv => hK _ _ ?_
            rw [hds]
            rw [setK_eq] at hk
            refine cont hk hgo ((hE.mono hgo.le).put hlt hv) ?_ (hD.set hb) ((put_size _ _ _).trans hN) (hdef _ _)
            intro p hp
            rcases List.mem_cons.1 hp with rfl | hp
            · show VR ρ' v ((a.put (some d) rv).tmps.getD d undef)
              rw [put_getD a d d rv hlt, if_pos rfl]; exact hv
            · exact (hA.mono hgo.le).kill hlt p hp
          | true =>
            rw [hb] at h; simp only [if_true] at h
            cases hmv : isMv o.op with
            | none =>
              rw [hmv] at h
              refine hO o A e s ρ w a (fun v s => compRegion P N D ops l ((d, .val v) :: A.kill d) call e s ke) q K Q hR hE hA h fun v s' ρ' w' rv hk hgo hv => hK _ _ ?_
              rw [hds]
              refine cont hk hgo ((hE.mono hgo.le).put_none hlt (hD d hb)) ?_ hD ((put_size _ _ _).trans hN) (hdef _ _)
              intro p hp
              rcases List.mem_cons.1 hp with rfl | hp
              · show VR ρ' v ((a.put (some d) rv).tmps.getD d undef)
                rw [put_getD a d d rv hlt, if_pos rfl]; exact hv
              · exact (hA.mono hgo.le).kill hlt p hp
            | some x =>
              rw [hmv] at h; dsimp only at h
              have hrun : (execOp a.eval o).run P w = .ok (.value (a.eval x)) w := by
                cases ho : o.op <;> rw [ho] at hmv <;> simp only [isMv, Option.some.injEq, reduceCtorEq] at hmv <;> subst hmv <;> unfold execOp <;> rw [ho] <;> rfl
              have hnd : ∀ c, o.op ≠ .defer c := fun c e => by rw [e] at hmv; cases hmv
              refine ⟨fun f _ => hF f, ?_⟩
              rw [Oper.semAt_eq _ _ _ hnd, hrun]
              refine hK _ _ ?_
              rw [hds]
              have hsrc : SrcOk ρ a d (A.on x) ∨ True := .inr trivial
              have hon : match A.on x with | .op y => a.eval x = a.eval y | .val v => VR ρ v (a.eval x) := by
                cases x with
                | tmp t => have := hA.look t; simp only [Al.on]; cases hl : A.look t with
                  | op y => rw [hl] at this; exact this
                  | val v => rw [hl] at this; exact this
                | _ => rfl
              refine cont h (Goes.refl hR) (hE.put_none hlt (hD d hb)) ?_ hD ((put_size _ _ _).trans hN) (hdef _ _)
              have hput : (a.put (some d) (a.eval x)).eval (.tmp d) = a.eval x := by
                show (a.put (some d) (a.eval x)).tmps.getD d undef = _
                rw [put_getD a d d _ hlt, if_pos rfl]
              split
              · exact hA.kill hlt
              · next hne =>
                intro p hp
                rcases List.mem_cons.1 hp with rfl | hp
                · show SrcOk ρ (a.put (some d) (a.eval x)) d (A.on x)
                  cases hx : A.on x with
                  | op y =>
                    rw [hx] at hon hne
                    show (a.put (some d) (a.eval x)).eval (.tmp d) = (a.put (some d) (a.eval x)).eval y
                    rw [hput, eval_put_ne (fun e => hne (by subst e; simp [isTmp])) hlt]; exact hon
                  | val v =>
                    rw [hx] at hon
                    show VR ρ v ((a.put (some d) (a.eval x)).eval (.tmp d))
                    rw [hput]; exact hon
                · exact hA.kill hlt p hp
      | some g =>
        obtain ⟨j, b⟩ := g
        rw [hg] at h
        refine wpListIn_step fun K hK => ?_
        have hw : ∀ {v : V} {y nn : Res}, VR ρ v (a.eval (.tmp (slotOf ops j))) → want v (bN1 b) y nn = some q →
            (Region.wanted o (yielded ops a.tmps) = true ∧ y = some q) ∨ (Region.wanted o (yielded ops a.tmps) = false ∧ nn = some q) := fun hv h => by
          simp only [Region.wanted, hg]
          rcases want_some hv h with ⟨h1, h2⟩ | ⟨h1, h2⟩
          · exact .inl ⟨by rw [(yielded_iff hN hB j b).2 h1]; simp, h2⟩
          · refine .inr ⟨?_, h2⟩
            cases hy : yielded ops a.tmps j with
            | none => rfl
            | some c => have := h1 c ((yielded_iff hN hB j c).1 hy); simpa using this
        have hun : ∀ {ρ : Rho}, VR ρ undefV undef := .tup .nil
        cases hds : o.dst with
        | none =>
          rw [hds] at h; dsimp only at h
          cases hc : compO A (.tmp (slotOf ops j)) with
          | none => rw [hc] at h; cases h
          | some g =>
            rw [hc] at h; dsimp only at h
            obtain ⟨v, h, hv⟩ := compO_ok hE hA hc _ _ (show g e (fun g => want g (bN1 b) (compOp P A o call e s fun _ s => compRegion P N D ops l A call e s ke) (compRegion P N D ops l A call e s ke)) = some q from h)
            rcases hw hv h with ⟨h1, h2⟩ | ⟨h1, h2⟩
            · rw [if_pos h1]
              refine hO o A e s ρ w a (fun _ s => compRegion P N D ops l A call e s ke) q K Q hR hE hA h2 fun v s' ρ' w' rv hk hgo hv => hK _ _ ?_
              rw [hds]
              exact cont hk hgo (hE.mono hgo.le) (hA.mono hgo.le) hD hN rfl
            · rw [if_neg (by simp [h1])]
              refine ⟨fun f _ => hF f, hK _ _ ?_⟩
              exact cont h2 (Goes.refl hR) hE hA hD hN rfl
        | some d =>
          rw [hds] at h; dsimp only at h
          have hlt : d < a.tmps.size := by rw [hN]; rw [hds] at hdo; simpa [dstOk] using hdo
          have halI : ∀ {ρ' : Rho} {v : V} {rv : Value}, AlOk ρ' A a → VR ρ' v rv → AlOk ρ' ((d, .val v) :: A.kill d) (a.put (some d) rv) := fun {ρ' v rv} hA hv p hp => by
            rcases List.mem_cons.1 hp with rfl | hp
            · show VR ρ' v ((a.put (some d) rv).tmps.getD d undef)
              rw [put_getD a d d rv hlt, if_pos rfl]; exact hv
            · exact hA.kill hlt p hp
          cases hc : compO A (.tmp (slotOf ops j)) with
          | none => rw [hc] at h; cases h
          | some g =>
            rw [hc] at h; dsimp only at h
            cases hb : D.testBit d with
            | true =>
              rw [hb] at h; simp only [if_true] at h
              obtain ⟨v, h, hv⟩ := compO_ok hE hA hc _ _ (show g e (fun g => want g (bN1 b) (compOp P A o call e s fun v s => compRegion P N D ops l ((d, .val v) :: A.kill d) call e s ke) (compRegion P N D ops l ((d, .val undefV) :: A.kill d) call e s ke)) = some q from h)
              rcases hw hv h with ⟨h1, h2⟩ | ⟨h1, h2⟩
              · rw [if_pos h1]
                refine hO o A e s ρ w a (fun v s => compRegion P N D ops l ((d, .val v) :: A.kill d) call e s ke) q K Q hR hE hA h2 fun v s' ρ' w' rv hk hgo hv => hK _ _ ?_
                rw [hds]
                exact cont hk hgo ((hE.mono hgo.le).put_none hlt (hD d hb)) (halI (hA.mono hgo.le) hv) hD ((put_size _ _ _).trans hN) (hdef _ _)
              · rw [if_neg (by simp [h1])]
                refine ⟨fun f _ => hF f, hK _ _ ?_⟩
                exact cont h2 (Goes.refl hR) (hE.put_none hlt (hD d hb)) (halI hA hun) hD ((put_size _ _ _).trans hN) (hdef _ _)
            | false =>
              rw [hb] at h; simp only [Bool.false_eq_true, if_false] at h
              obtain ⟨v, h, hv⟩ := compO_ok hE hA hc _ _ (show g e (fun g => want g (bN1 b) (compOp P A o call e s fun v s => e.setK d v fun e => compRegion P N D ops l ((d, .val v) :: A.kill d) call e s ke) (e.setK d undefV fun e => compRegion P N D ops l ((d, .val undefV) :: A.kill d) call e s ke)) = some q from h)
              rcases hw hv h with ⟨h1, h2⟩ | ⟨h1, h2⟩
              · rw [if_pos h1]
                refine hO o A e s ρ w a (fun v s => e.setK d v fun e => compRegion P N D ops l ((d, .val v) :: A.kill d) call e s ke) q K Q hR hE hA h2 fun v s' ρ' w' rv hk hgo hv => hK _ _ ?_
                rw [hds]
                rw [setK_eq] at hk
                exact cont hk hgo ((hE.mono hgo.le).put hlt hv) (halI (hA.mono hgo.le) hv) (hD.set hb) ((put_size _ _ _).trans hN) (hdef _ _)
              · rw [if_neg (by simp [h1])]
                refine ⟨fun f _ => hF f, hK _ _ ?_⟩
                rw [setK_eq] at h2
                exact cont h2 (Goes.refl hR) (hE.put hlt hun) (halI hA hun) (hD.set hb) ((put_size _ _ _).trans hN) (hdef _ _)
    · rw [if_neg hdo] at h; cases h
end
end Go.Lm
