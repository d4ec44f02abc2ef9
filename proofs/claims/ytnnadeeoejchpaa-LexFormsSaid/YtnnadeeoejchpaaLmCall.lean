/- Calls. -/
import Derived.Test.YtnnadeeoejchpaaLmReg3
import Derived.RangeFuncLeaves
import Derived.RangeFuncCalls
set_option linter.all false
namespace Go.Lm

/-- any function, any depth; in a round or in none -/
def IsWide (F : Fence) : Prop := F = Fence.wide ∨ ∃ l, F = Fence.wide.inRound l
theorem IsWide.fn {F : Fence} (h : IsWide F) (f : FuncId) : F.fn f := by rcases h with rfl | ⟨l, rfl⟩ <;> trivial
theorem IsWide.depth {F : Fence} (h : IsWide F) : F.depth = none := by rcases h with rfl | ⟨l, rfl⟩ <;> rfl

def onlyRet (R : Value → World → Prop) : Ending → World → Prop
  | .returned v, w => R v w
  | _, _ => False
theorem onlyRet_mono {R R' : Value → World → Prop} (h : ∀ v w, R v w → R' v w) : ∀ e w, onlyRet R e w → onlyRet R' e w := fun e w x => by
  cases e with
  | returned v => exact h v w x
  | _ => exact x.elim

/-- what a call of a function's value comes to -/
def CallR (P : Program) (FV : Value) (args : Array Value) (w : World) (R : Value → World → Prop) : Prop :=
  match FV with
  | .func (.func f) first cap => ((callFunc f ((first ++ args) ++ cap)).run P w = .ok (.enter f ((first ++ args) ++ cap)) w ∧ Calls P f ((first ++ args) ++ cap) w (onlyRet R)) ∨
      (∀ l, ((first ++ args) ++ cap)[0]? ≠ some (.func (.yield l) #[] #[])) ∧ ∃ v w', (callFunc f ((first ++ args) ++ cap)).run P w = .ok (.value v) w' ∧ R v w'
  | .func (.yield l) first _ => ∃ f tmps a b, (Instr.yield l (first ++ args)).run P w = .ok (.round l f tmps a b) w ∧ RoundIn Fence.wide 0 P l f tmps a b w (onlyRet R)
  | _ => False

section
variable {P : Program} {lc : Lc}
variable {F : Fence} {n : Nat}

theorem calls_in {f : FuncId} {args : Array Value} {w : World} {R : Ending → World → Prop} (hW : IsWide F) (h : Calls P f args w R) : CallsIn F n P f args w R := by
  rcases hW with rfl | ⟨l, rfl⟩
  · exact callsIn_wide.2 h
  · exact CallsIn.inRound l (callsIn_wide.2 h)
theorem round_in {l : Nat} {f : FuncId} {tmps : Array Value} {assign body : Code} {w : World} {R : Ending → World → Prop} (hW : IsWide F) (h : RoundIn Fence.wide 0 P l f tmps assign body w R) : RoundIn F n P l f tmps assign body w R := by
  rcases hW with rfl | ⟨l', rfl⟩
  · exact ⟨trivial, fun c cs _ => h.2 c cs (room_wide _)⟩
  · exact ⟨trivial, fun c cs _ => h.2 c cs (room_wide _)⟩

theorem call_wp {o : Oper} {a : Act} {w : World} {next : Act → World → Prop} {Q : Exit → Act → World → Prop} {c : Call} {x : Operand} (hW : IsWide F) (ho : o.op = .call c) (hc : c.callee = .value x)
    (h : CallR P (a.eval x) (c.args.map a.eval) w (fun rv w' => next (a.put o.dst rv) w')) : o.wpIn F n P a w next Q := by
  have hnd : ∀ c, o.op ≠ .defer c := fun c e => by rw [ho] at e; cases e
  refine ⟨fun f _ => hW.fn f, ?_⟩
  rw [Oper.semAt_eq _ _ _ hnd]
  have hdep : ¬ (F.depth.isSome = true) := by rw [hW.depth]; simp
  cases hx : a.eval x with
  | func t first cap =>
    rw [hx] at h
    have hrun : (execOp a.eval o).run P w = (invoke (.fn t cap) (first ++ c.args.map a.eval)).run P w := by
      unfold execOp; rw [ho]; simp only [resolve, hc, hx, Deferred.ofValue]; rfl
    cases t with
    | func f =>
      have hrun2 : (execOp a.eval o).run P w = (callFunc f ((first ++ c.args.map a.eval) ++ cap)).run P w := by rw [hrun]; rfl
      rw [hrun2]
      rcases h with ⟨h1, h2⟩ | ⟨hy, v, w', h1, h2⟩
      · rw [h1]
        refine ⟨fun e => absurd e hdep, (calls_in hW h2).mono fun e w' he => ?_⟩
        cases e with
        | returned v => exact he
        | _ => exact he.elim
      · rw [h1]; exact h2
    | yield l =>
      have hrun2 : (execOp a.eval o).run P w = (Instr.yield l (first ++ c.args.map a.eval)).run P w := by rw [hrun]; rfl
      obtain ⟨f, tmps, as, b, h1, h2⟩ := h
      rw [hrun2, h1]
      refine ⟨fun e => absurd e hdep, (round_in hW h2).mono fun e w' he => ?_⟩
      cases e with
      | returned v => exact he
      | _ => exact he.elim
    | _ => exact h.elim
  | _ => rw [hx] at h; exact h.elim

theorem CallR.mono {FV : Value} {args : Array Value} {w : World} {R R' : Value → World → Prop} (h : CallR P FV args w R) (hr : ∀ v w, R v w → R' v w) : CallR P FV args w R' := by
  cases FV with
  | func t first cap =>
    cases t with
    | func f =>
      rcases h with ⟨h1, h2⟩ | ⟨hy, v, w', h1, h2⟩
      · exact .inl ⟨h1, h2.mono (onlyRet_mono hr)⟩
      · exact .inr ⟨hy, v, w', h1, hr _ _ h2⟩
    | yield l =>
      obtain ⟨f, tmps, as, b, h1, h2⟩ := h
      exact ⟨f, tmps, as, b, h1, h2.mono (onlyRet_mono hr)⟩
    | _ => exact h.elim
  | _ => exact h.elim

/-- the evaluator's calls stand for the machine's -/
def CallerOk (P : Program) (lc : Lc) (call : Caller) : Prop :=
  ∀ (f : V) (args : List V) (s : St) (k : K) (q : V × St) (ρ : Rho) (w : World) (FV : Value) (ARGS : List Value), call f args s k = some q → Rel lc ρ s w → VR ρ f FV → VRL ρ args ARGS →
    CallR P FV ⟨ARGS⟩ w (fun rv w' => ∃ v s' ρ', k v s' = some q ∧ Goes lc ρ s w ρ' s' w' ∧ VR ρ' v rv)

theorem opsOk {call : Caller} (hW : IsWide F) (hC : CallerOk P lc call) : OpsOk P lc F n call := by
  intro o A e s ρ w a k q next Q hR hE hA h hn
  by_cases hcall : isCall o.op
  · obtain ⟨c, x, ho, hc⟩ := hcall
    unfold compOp at h
    rw [ho] at h
    dsimp only at h
    rw [hc] at h
    have fin : ∀ {f : V} {l : List V}, call f l s k = some q → VR ρ f (a.eval x) → VRL ρ l (c.args.toList.map a.eval) → o.wpIn F n P a w next Q := fun {f l} h hf hl => by
      refine call_wp hW ho hc ?_
      have := hC _ _ _ _ _ ρ w _ _ h hR hf hl
      have e1 : (⟨c.args.toList.map a.eval⟩ : Array Value) = c.args.map a.eval := by rw [← Array.toList_map]
      rw [e1] at this
      exact this.mono fun v w' ⟨v', s', ρ', hk, hg, hv⟩ => hn v' s' ρ' w' v hk hg hv
    cases x with
    | func f =>
      dsimp only at h
      obtain ⟨xs, hxs, h⟩ := oL_some h
      obtain ⟨l, h, hl⟩ := compOs_ok hE hA hxs _ _ (show evL xs e (fun l => call (vFn f []) l s k) = some q from h)
      exact fin h (.fn .nil) hl
    | _ =>
      dsimp only at h
      obtain ⟨x', hx, h⟩ := o1_some h
      obtain ⟨xs, hxs, h⟩ := oL_some h
      obtain ⟨f, h, hf⟩ := compO_ok hE hA hx _ _ (show x' e (fun x => evL xs e fun l => call x l s k) = some q from h)
      obtain ⟨l, h, hl⟩ := compOs_ok hE hA hxs _ _ h
      exact fin h hf hl
  · have hnd : ∀ c, o.op ≠ .defer c := fun c e => by
      unfold compOp at h; rw [e] at h; cases h
    exact op_wp hW.fn hnd (compOp_ok hcall hR hE hA h) hn
end
end Go.Lm
