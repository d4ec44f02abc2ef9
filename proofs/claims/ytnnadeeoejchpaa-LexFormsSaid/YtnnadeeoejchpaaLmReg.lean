/- Regions. -/
import Derived.Test.YtnnadeeoejchpaaLmOp
import Derived.TacticsIn
set_option linter.all false
namespace Go.Lm
section
variable {P : Program} {lc : Lc}
variable {ρ : Rho} {s : St} {w : World} {k : K} {q : V × St} {call : Caller} {e : Env}
variable {a : Act} {o : Oper} {A : Al} {c : Call}

theorem put_getD (a : Act) (d t : Nat) (v : Value) (h : d < a.tmps.size) : (a.put (some d) v).tmps.getD t undef = if t = d then v else a.tmps.getD t undef := by
  simp only [Act.put, Array.getD_eq_getD_getElem?]
  by_cases e : t = d
  · subst e; simp [h]
  · rw [if_neg e, Array.getElem?_setIfInBounds_ne (Ne.symm e)]
theorem put_size (a : Act) (d : Option Nat) (v : Value) : (a.put d v).tmps.size = a.tmps.size := by cases d <;> simp [Act.put]

theorem ifB_eq {α : Type} (b : Bool) (x y : α) : ifB b x y = if b = true then x else y := by cases b <;> rfl
theorem killK_eq {α : Type} (d : Nat) (A : Al) : ∀ (k : Al → α), killK d A k = k (A.kill d) := by
  induction A with
  | nil => intro k; rfl
  | cons p A ih =>
    intro k
    have h : killK d (p :: A) k = ifB ((p.1 == d) || isTmp d p.2) (killK d A k) (killK d A fun A' => k (p :: A')) := rfl
    rw [h, ih, ih]
    unfold Al.kill
    rw [List.filter_cons]
    cases h1 : (p.1 == d) <;> cases h2 : isTmp d p.2 <;> rfl
theorem onK_eq {α : Type} (A : Al) (x : Operand) (k : Src → α) : onK A x k = k (A.on x) := by
  unfold onK; cases A.on x <;> rfl
theorem AlOk.nil : AlOk ρ [] a := fun p hp => by cases hp
theorem SrcOk.mono {ρ' : Rho} (h : ρ.le ρ') {t : Nat} {x : Src} (hx : SrcOk ρ a t x) : SrcOk ρ' a t x := by
  cases x with
  | op y => exact hx
  | val v => exact VR.mono h hx
theorem AlOk.mono {ρ' : Rho} (h : ρ.le ρ') (hA : AlOk ρ A a) : AlOk ρ' A a := fun p hp => (hA p hp).mono h
theorem eval_put_ne {d : Nat} {v : Value} {X : Operand} (hX : X ≠ .tmp d) (hd : d < a.tmps.size) : (a.put (some d) v).eval X = a.eval X := by
  cases X with
  | tmp t => simp only [Act.eval]; rw [put_getD a d t v hd, if_neg (fun e => hX (by rw [e]))]
  | _ => rfl
theorem AlOk.kill {d : Nat} {v : Value} (hA : AlOk ρ A a) (hd : d < a.tmps.size) : AlOk ρ (A.kill d) (a.put (some d) v) := fun p hp => by
  obtain ⟨h1, h2⟩ := List.mem_filter.1 hp
  simp only [Bool.and_eq_true, Bool.not_eq_true', beq_eq_false_iff_ne] at h2
  have h := hA p h1
  obtain ⟨t, x⟩ := p
  have ht : (Operand.tmp t) ≠ .tmp d := fun e => h2.1 (by cases e; rfl)
  cases x with
  | op y =>
    have hy : y ≠ .tmp d := fun e => by subst e; simp [isTmp] at h2
    show (a.put (some d) v).eval (.tmp t) = (a.put (some d) v).eval y
    rw [eval_put_ne ht hd, eval_put_ne hy hd]; exact h
  | val u =>
    show VR ρ u ((a.put (some d) v).eval (.tmp t))
    rw [eval_put_ne ht hd]; exact h

/-- an operation that calls nothing, in the machine's walk -/
theorem op_wp {F : Fence} {n : Nat} {next : Act → World → Prop} {Q : Exit → Act → World → Prop} (hF : ∀ f, F.fn f) (hnd : ∀ c, o.op ≠ .defer c)
    (hd : Does P lc ρ s w (execOp a.eval o) k q)
    (hn : ∀ v s' ρ' w' rv, k v s' = some q → Goes lc ρ s w ρ' s' w' → VR ρ' v rv → next (a.put o.dst rv) w') : o.wpIn F n P a w next Q := by
  refine ⟨fun f _ => hF f, ?_⟩
  rw [Oper.semAt_eq _ _ _ hnd]
  obtain ⟨v, s', ρ', w', rv, hk, hrun, hg, hv⟩ := hd
  rcases hrun with hrun | ⟨rfl, hrun⟩
  · rw [hrun]; exact hn v s' ρ' w' rv hk hg hv
  · rw [hrun]; exact hn v s' ρ' w' undef hk hg hv
end
end Go.Lm
