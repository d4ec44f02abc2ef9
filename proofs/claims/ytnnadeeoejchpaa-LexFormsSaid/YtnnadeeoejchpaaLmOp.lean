/- An operation that is compiled does what the machine's does. -/
import Derived.Test.YtnnadeeoejchpaaLmMem9
import Derived.ControlIn
set_option linter.all false
namespace Go.Lm
section
variable {P : Program} {lc : Lc}
variable {ρ : Rho} {s : St} {w : World} {k : K} {q : V × St} {call : Caller} {e : Env}
variable {t u : TypeId} {X Y Z : Operand} {a : Act} {o : Oper} {A : Al} {c : Call}

/-- what the slots are said to hold, they hold -/
def SrcOk (ρ : Rho) (a : Act) (t : Nat) : Src → Prop
  | .op y => a.eval (.tmp t) = a.eval y
  | .val v => VR ρ v (a.eval (.tmp t))
def AlOk (ρ : Rho) (A : Al) (a : Act) : Prop := ∀ p ∈ A, SrcOk ρ a p.1 p.2
theorem AlOk.look (h : AlOk ρ A a) (t : Nat) : SrcOk ρ a t (A.look t) := by
  induction A with
  | nil => exact rfl
  | cons p A ih =>
    obtain ⟨u, x⟩ := p
    simp only [Al.look]
    split
    · next e => subst e; exact h _ List.mem_cons_self
    · exact ih fun p hp => h p (List.mem_cons_of_mem _ hp)

theorem compO0_ok (hE : EnvR ρ e a) {X : Operand} {x : Od} (h : compO0 X = some x) : Opd ρ (x e) (a.eval X) := by
  intro k q hq
  cases X with
  | tmp t =>
    simp only [compO0, Option.some.injEq] at h; subst h
    have hq : (Option.rec (motive := fun _ => Res) none k (e.get t)) = some q := hq
    rw [orec] at hq
    obtain ⟨v, hv, hk⟩ := bind_some.1 hq
    exact ⟨v, hk, hE t v hv⟩
  | const v =>
    simp only [compO0, Option.map_eq_some_iff] at h
    obtain ⟨v', hv, rfl⟩ := h
    exact ⟨v', hq, compV_ok _ _ hv⟩
  | global g => simp [compO0] at h
  | func f =>
    simp only [compO0, Option.some.injEq] at h; subst h
    exact ⟨_, hq, .fn .nil⟩

theorem compO_ok (hE : EnvR ρ e a) (hA : AlOk ρ A a) {X : Operand} {x : Od} (h : compO A X = some x) : Opd ρ (x e) (a.eval X) := by
  unfold compO at h
  cases X with
  | tmp t =>
    have ht := hA.look t
    simp only [Al.on] at h
    cases hl : A.look t with
    | op y => rw [hl] at h ht; dsimp only at h; rw [show a.eval (.tmp t) = a.eval y from ht]; exact compO0_ok hE h
    | val v =>
      rw [hl] at h ht; dsimp only at h
      simp only [Option.some.injEq] at h; subst h
      exact fun k q hq => ⟨v, hq, ht⟩
  | const v => exact compO0_ok hE h
  | global g => exact compO0_ok hE h
  | func f => exact compO0_ok hE h

theorem compOs_ok (hE : EnvR ρ e a) (hA : AlOk ρ A a) : ∀ {XS : List Operand} {xs : List Od}, compOs A XS = some xs → Opds ρ (evL xs e) (XS.map a.eval)
  | [], xs, h => by
    simp only [compOs, Option.some.injEq] at h; subst h
    exact fun k q hq => ⟨[], hq, .nil⟩
  | X :: XS, xs, h => by
    simp only [compOs] at h
    cases e1 : compO A X with
    | none => rw [e1] at h; cases h
    | some x => cases e2 : compOs A XS with
      | none => rw [e1, e2] at h; cases h
      | some xs' =>
        rw [e1, e2] at h; cases h
        intro k q hq
        obtain ⟨v, hq, hv⟩ := compO_ok hE hA e1 _ _ (show x e (fun v => evL xs' e fun vs => k (v :: vs)) = some q from hq)
        obtain ⟨vs, hq, hvs⟩ := compOs_ok hE hA e2 _ _ hq
        exact ⟨_, hq, .cons hv hvs⟩

theorem oBad_some {n : Nat} {α : Prop} (h : oBad n call e s k = some q) : α := by cases h
theorem o1_some {f : Od → Opr} (h : o1 A X f call e s k = some q) : ∃ x, compO A X = some x ∧ f x call e s k = some q := by
  unfold o1 at h
  cases e1 : compO A X with
  | none => rw [e1] at h; cases h
  | some x => rw [e1] at h; exact ⟨x, rfl, h⟩
theorem o2_some {f : Od → Od → Opr} (h : o2 A X Y f call e s k = some q) : ∃ x y, compO A X = some x ∧ compO A Y = some y ∧ f x y call e s k = some q := by
  obtain ⟨x, hx, h⟩ := o1_some h
  obtain ⟨y, hy, h⟩ := o1_some h
  exact ⟨x, y, hx, hy, h⟩
theorem oL_some {XS : List Operand} {f : List Od → Opr} (h : oL A XS f call e s k = some q) : ∃ xs, compOs A XS = some xs ∧ f xs call e s k = some q := by
  unfold oL at h
  cases e1 : compOs A XS with
  | none => rw [e1] at h; cases h
  | some x => rw [e1] at h; exact ⟨x, rfl, h⟩
theorem oO_some (hE : EnvR ρ e a) (hA : AlOk ρ A a) {X : Option Operand} {f : Option Od → Opr} (h : oO A X f call e s k = some q) : ∃ x, OpdO ρ a.eval e x X ∧ f x call e s k = some q := by
  cases X with
  | none => exact ⟨none, .none, h⟩
  | some X =>
    obtain ⟨x, hx, h⟩ := o1_some h
    exact ⟨some x, .some (compO_ok hE hA hx), h⟩

/-- one or two operands that are compiled -/
theorem on1 (hE : EnvR ρ e a) (hA : AlOk ρ A a) {f : Od → Opr} {G : Prop} (h : o1 A X f call e s k = some q) (g : ∀ x, Opd ρ (x e) (a.eval X) → f x call e s k = some q → G) : G := by
  obtain ⟨x, hx, h⟩ := o1_some h; exact g x (compO_ok hE hA hx) h
theorem on2 (hE : EnvR ρ e a) (hA : AlOk ρ A a) {f : Od → Od → Opr} {G : Prop} (h : o2 A X Y f call e s k = some q) (g : ∀ x y, Opd ρ (x e) (a.eval X) → Opd ρ (y e) (a.eval Y) → f x y call e s k = some q → G) : G := by
  obtain ⟨x, y, hx, hy, h⟩ := o2_some h; exact g x y (compO_ok hE hA hx) (compO_ok hE hA hy) h

theorem isNilP_eq (h : isNilP Y = true) : Y = .const (.pointer none) := by
  unfold isNilP at h; split at h
  · rfl
  · cases h
theorem isNilS_eq (h : isNilS Y = true) : Y = .const (.slice none 0 0) := by
  unfold isNilS at h; split at h
  · rfl
  · cases h

theorem compBin_ok {op : BinOp} (ho : o.op = .binOp op t X Y u) (hR : Rel lc ρ s w) (hE : EnvR ρ e a) (hA : AlOk ρ A a) (h : compBin P A op t X Y call e s k = some q) : Does P lc ρ s w (execOp a.eval o) k q := by
  unfold compBin at h
  cases hu : P.underlying t with
  | none => rw [hu] at h; exact oBad_some h
  | some d =>
    rw [hu] at h
    cases d with
    | int kd =>
      cases op with
      | add => exact on2 hE hA h fun x y hx hy h => add_ok ho hR hx hy h
      | sub => exact on2 hE hA h fun x y hx hy h => sub_ok ho hR hx hy h
      | mul => exact on2 hE hA h fun x y hx hy h => mul_ok ho hR hx hy h
      | quo => exact on2 hE hA h fun x y hx hy h => quo_ok ho hR hx hy h
      | rem => exact on2 hE hA h fun x y hx hy h => rem_ok ho hR hx hy h
      | lss => exact on2 hE hA h fun x y hx hy h => lss_ok ho hR hx hy h
      | leq => exact on2 hE hA h fun x y hx hy h => leq_ok ho hR hx hy h
      | gtr => exact on2 hE hA h fun x y hx hy h => gtr_ok ho hR hx hy h
      | geq => exact on2 hE hA h fun x y hx hy h => geq_ok ho hR hx hy h
      | eql => exact on2 hE hA h fun x y hx hy h => eqi_ok ho hR hx hy h
      | neq => exact on2 hE hA h fun x y hx hy h => nei_ok ho hR hx hy h
      | _ => exact oBad_some h
    | string =>
      cases op with
      | add => exact on2 hE hA h fun x y hx hy h => cat_ok ho hR hx hy h
      | eql => exact on2 hE hA h fun x y hx hy h => eqs_ok ho hR hx hy h
      | neq => exact on2 hE hA h fun x y hx hy h => nes_ok ho hR hx hy h
      | lss => exact on2 hE hA h fun x y hx hy h => lts_ok ho hR hx hy h
      | leq => exact on2 hE hA h fun x y hx hy h => les_ok ho hR hx hy h
      | gtr => exact on2 hE hA h fun x y hx hy h => gts_ok ho hR hx hy h
      | geq => exact on2 hE hA h fun x y hx hy h => ges_ok ho hR hx hy h
      | _ => exact oBad_some h
    | bool =>
      cases op with
      | eql => exact on2 hE hA h fun x y hx hy h => eqb_ok ho hu hR hx hy h
      | neq => exact on2 hE hA h fun x y hx hy h => neb_ok ho hu hR hx hy h
      | _ => exact oBad_some h
    | struct fs =>
      cases op with
      | eql =>
        cases hk : flatEq P t fs with
        | none => simp only [hk] at h; exact oBad_some h
        | some kcs => simp only [hk] at h; exact on2 hE hA h fun x y hx hy h => eqG_ok (.inl ⟨rfl, rfl⟩) ho hu hk hR hx hy h
      | neq =>
        cases hk : flatEq P t fs with
        | none => simp only [hk] at h; exact oBad_some h
        | some kcs => simp only [hk] at h; exact on2 hE hA h fun x y hx hy h => eqG_ok (.inr ⟨rfl, rfl⟩) ho hu hk hR hx hy h
      | _ => exact oBad_some h
    | pointer el =>
      cases op with
      | eql =>
        cases hn : isNilP Y with
        | false => simp only [hn, Bool.false_eq_true, if_false] at h; exact oBad_some h
        | true => simp only [hn, if_true] at h; exact on1 hE hA h fun x hx h => nilP_ok ho hu (by rw [isNilP_eq hn]; rfl) (.inl ⟨rfl, rfl⟩) hR hx h
      | neq =>
        cases hn : isNilP Y with
        | false => simp only [hn, Bool.false_eq_true, if_false] at h; exact oBad_some h
        | true => simp only [hn, if_true] at h; exact on1 hE hA h fun x hx h => nilP_ok ho hu (by rw [isNilP_eq hn]; rfl) (.inr ⟨rfl, rfl⟩) hR hx h
      | _ => exact oBad_some h
    | slice el =>
      cases op with
      | eql =>
        cases hn : isNilS Y with
        | false => simp only [hn, Bool.false_eq_true, if_false] at h; exact oBad_some h
        | true => simp only [hn, if_true] at h; exact on1 hE hA h fun x hx h => nilS_ok ho hu (by rw [isNilS_eq hn]; rfl) (.inl ⟨rfl, rfl⟩) hR hx h
      | neq =>
        cases hn : isNilS Y with
        | false => simp only [hn, Bool.false_eq_true, if_false] at h; exact oBad_some h
        | true => simp only [hn, if_true] at h; exact on1 hE hA h fun x hx h => nilS_ok ho hu (by rw [isNilS_eq hn]; rfl) (.inr ⟨rfl, rfl⟩) hR hx h
      | _ => exact oBad_some h
    | _ => cases op <;> exact oBad_some h

/-- an operation that calls a function -/
def isCall (o : Op) : Prop := ∃ c x, o = .call c ∧ c.callee = .value x

theorem compOp_ok (hnc : ¬ isCall o.op) (hR : Rel lc ρ s w) (hE : EnvR ρ e a) (hA : AlOk ρ A a) (h : compOp P A o call e s k = some q) : Does P lc ρ s w (execOp a.eval o) k q := by
  unfold compOp at h
  cases ho : o.op with
  | move x => rw [ho] at h; exact on1 hE hA h fun x hx h => by have := mv_ok (P := P) hR hx h; unfold execOp; rw [ho]; exact this
  | assign x => rw [ho] at h; exact on1 hE hA h fun x hx h => by have := mv_ok (P := P) hR hx h; unfold execOp; rw [ho]; exact this
  | pick c x y =>
    rw [ho] at h
    refine on1 hE hA h fun c hc h => on2 hE hA h fun x y hx hy h => ?_
    have := pick_ok (P := P) hR hc hx hy h
    unfold execOp; rw [ho]; exact this
  | alloc t =>
    rw [ho] at h; dsimp only at h
    cases hz : zeroOf P t with
    | none => rw [hz] at h; exact oBad_some h
    | some l => rw [hz] at h; exact alloc_ok ho hz hR h
  | box t x => rw [ho] at h; exact on1 hE hA h fun x hx h => box_ok ho hR hx h
  | build t parts =>
    rw [ho] at h; dsimp only at h
    cases hz : zeroOf P t with
    | none => rw [hz] at h; cases hu : P.underlying t with
      | none => rw [hu] at h; exact oBad_some h
      | some d => rw [hu] at h; cases d <;> exact oBad_some h
    | some l =>
      rw [hz] at h
      cases hu : P.underlying t with
      | none => rw [hu] at h; exact oBad_some h
      | some d =>
        rw [hu] at h
        cases d with
        | struct fs =>
          dsimp only at h
          by_cases hc : (fs.toList.all (fun f => (P.info? f.type).isSome) && parts.toList.all (fun p => decide (p.1 < fs.size))) = true
          · rw [if_pos hc] at h
            obtain ⟨xs, hxs, h⟩ := oL_some h
            exact buildS_ok ho hu hz hc hR (compOs_ok hE hA hxs) h
          · rw [if_neg hc] at h; exact oBad_some h
        | array n el =>
          dsimp only at h
          by_cases hc : (P.info? el).isSome = true
          · rw [if_pos hc] at h
            obtain ⟨xs, hxs, h⟩ := oL_some h
            exact buildA_ok ho hu hz hc hR (compOs_ok hE hA hxs) h
          · rw [if_neg hc] at h; exact oBad_some h
        | _ => exact oBad_some h
  | buildSlice t len parts =>
    rw [ho] at h; dsimp only at h
    cases hu : P.underlying t with
    | none => rw [hu] at h; exact oBad_some h
    | some d =>
      rw [hu] at h
      cases d with
      | slice el =>
        dsimp only at h
        cases hz : zeroOf P el with
        | none => rw [hz] at h; exact oBad_some h
        | some z =>
          rw [hz] at h; dsimp only at h
          by_cases hc : len * P.cellsOf el ≤ 2 ^ 20
          · rw [if_pos hc] at h
            obtain ⟨xs, hxs, h⟩ := oL_some h
            exact bslice_ok ho hu hz hc hR (compOs_ok hE hA hxs) h
          · rw [if_neg hc] at h; exact oBad_some h
      | _ => exact oBad_some h
  | load t x =>
    rw [ho] at h; dsimp only at h
    cases hg : isAggT P t with
    | none => rw [hg] at h; exact oBad_some h
    | some g => rw [hg] at h; cases g with
      | true => exact on1 hE hA h fun x hx h => loadN_ok ho hg hR hx h
      | false => exact on1 hE hA h fun x hx h => load1_ok ho hg hR hx h
  | store t x y =>
    rw [ho] at h; dsimp only at h
    by_cases hc : (P.info? t).isSome = true
    · rw [if_pos hc] at h; exact on2 hE hA h fun x y hx hy h => store_ok ho (Option.isSome_iff_exists.1 hc) hR hx hy h
    · rw [if_neg hc] at h; exact oBad_some h
  | nilCheck x => rw [ho] at h; exact on1 hE hA h fun x hx h => nilchk_ok ho hR hx h
  | unOp op t x =>
    rw [ho] at h
    cases op with
    | not => exact on1 hE hA h fun x hx h => not_ok ho hR hx h
    | neg =>
      dsimp only at h
      cases hu : P.underlying t with
      | none => rw [hu] at h; exact oBad_some h
      | some d => rw [hu] at h; cases d with
        | int kd => exact on1 hE hA h fun x hx h => neg_ok ho hR hx h
        | _ => exact oBad_some h
    | _ => exact oBad_some h
  | makeMap t r => rw [ho] at h; cases r with
    | none => exact mkmap_ok ho hR h
    | some r => exact oBad_some h
  | convert src dst x =>
    rw [ho] at h; dsimp only at h
    cases h1 : P.underlying src with
    | none => rw [h1] at h; exact oBad_some h
    | some d1 =>
      rw [h1] at h
      cases h2 : P.underlying dst with
      | none => rw [h2] at h; cases d1 <;> exact oBad_some h
      | some d2 =>
        rw [h2] at h
        cases d1 with
        | int k1 => cases d2 with
          | int k2 => exact on1 hE hA h fun x hx h => convI_ok ho h1 h2 hR hx h
          | _ => exact oBad_some h
        | string => cases d2 with
          | string => exact on1 hE hA h fun x hx h => convS_ok ho h1 h2 hR hx h
          | _ => exact oBad_some h
        | slice el => cases d2 with
          | string =>
            dsimp only at h
            cases h3 : P.underlying el with
            | none => rw [h3] at h; exact oBad_some h
            | some d3 =>
              rw [h3] at h
              cases d3 with
              | int k3 => cases k3 with
                | u8 =>
                  dsimp only at h
                  by_cases hc : P.cellsOf el = 1
                  · rw [if_pos hc] at h; exact on1 hE hA h fun x hx h => ofBytes_ok ho h1 h2 h3 hR hx h
                  · rw [if_neg hc] at h; exact oBad_some h
                | _ => exact oBad_some h
              | _ => exact oBad_some h
          | _ => exact oBad_some h
        | _ => cases d2 <;> exact oBad_some h
  | extract x i => rw [ho] at h; exact on1 hE hA h fun x hx h => extract_ok ho hR hx h
  | fieldAddr st x f =>
    rw [ho] at h; dsimp only at h
    cases h1 : P.underlying st with
    | none => rw [h1] at h; exact oBad_some h
    | some d => rw [h1] at h; cases d with
      | struct fs =>
        dsimp only at h
        cases h2 : fs[f]? with
        | none => rw [h2] at h; exact oBad_some h
        | some fd =>
          rw [h2] at h; dsimp only at h
          by_cases hc : P.cellsOf fd.type = 0
          · rw [if_pos hc] at h; exact oBad_some h
          · rw [if_neg hc] at h; exact on1 hE hA h fun x hx h => faddr_ok ho h1 h2 hc hR hx h
      | _ => exact oBad_some h
  | field st x f =>
    rw [ho] at h; dsimp only at h
    cases h1 : P.underlying st with
    | none => rw [h1] at h; exact oBad_some h
    | some d => rw [h1] at h; cases d with
      | struct fs =>
        dsimp only at h
        cases h2 : fs[f]? with
        | none => rw [h2] at h; exact oBad_some h
        | some fd =>
          rw [h2] at h; dsimp only at h
          cases h3 : isAggT P fd.type with
          | none => rw [h3] at h; exact oBad_some h
          | some g => rw [h3] at h; exact on1 hE hA h fun x hx h => field_ok ho h1 h2 h3 hR hx h
      | _ => exact oBad_some h
  | indexAddr t x i =>
    rw [ho] at h; dsimp only at h
    cases h1 : P.underlying t with
    | none => rw [h1] at h; exact oBad_some h
    | some d => rw [h1] at h; cases d with
      | array n el =>
        dsimp only at h
        by_cases hc : P.cellsOf el = 0
        · rw [if_pos hc] at h; exact oBad_some h
        · rw [if_neg hc] at h; exact on2 hE hA h fun x y hx hy h => iaddrA_ok ho h1 hc hR hx hy h
      | slice el =>
        dsimp only at h
        by_cases hc : P.cellsOf el = 0
        · rw [if_pos hc] at h; exact oBad_some h
        · rw [if_neg hc] at h; exact on2 hE hA h fun x y hx hy h => iaddrL_ok ho h1 hc hR hx hy h
      | _ => exact oBad_some h
  | index t x i =>
    rw [ho] at h; dsimp only at h
    cases h1 : P.underlying t with
    | none => rw [h1] at h; exact oBad_some h
    | some d => rw [h1] at h; cases d with
      | array n el =>
        dsimp only at h
        cases h2 : isAggT P el with
        | none => rw [h2] at h; exact oBad_some h
        | some g =>
          rw [h2] at h; cases g with
          | true => exact on2 hE hA h fun x y hx hy h => indexA_ok ho h1 h2 (fun e => by cases e) hR hx hy h
          | false =>
            dsimp only at h
            by_cases hc : P.cellsOf el = 1
            · rw [if_pos hc] at h; exact on2 hE hA h fun x y hx hy h => indexA_ok ho h1 h2 (fun _ => hc) hR hx hy (by rw [hc]; exact h)
            · rw [if_neg hc] at h; exact oBad_some h
      | string => exact on2 hE hA h fun x y hx hy h => indexS_ok ho h1 hR hx hy h
      | _ => exact oBad_some h
  | makeFunc f first captured =>
    rw [ho] at h
    cases f with
    | func f =>
      dsimp only at h
      by_cases hc : first.size = 0
      · rw [if_pos hc] at h
        obtain ⟨xs, hxs, h⟩ := oL_some h
        exact mkfn_ok ho hc hR (compOs_ok hE hA hxs) h
      · rw [if_neg hc] at h; exact oBad_some h
    | _ => exact oBad_some h
  | mapUpdate t m x y | insert t m x y =>
    rw [ho] at h; dsimp only at h
    cases h1 : P.underlying t with
    | none => rw [h1] at h; exact oBad_some h
    | some d => rw [h1] at h; cases d with
      | map kt et =>
        dsimp only at h
        cases hc : keyCode P kt with
        | none => rw [hc] at h; exact oBad_some h
        | some kc =>
          rw [hc] at h
          obtain ⟨d, hd, _⟩ := keyCode_desc hc
          refine on1 hE hA h fun m hm h => on2 hE hA h fun x y hx hy h => ?_
          first
            | exact mapupd_ok (.inl ho) h1 hd hc hR hm hx hy h
            | exact mapupd_ok (.inr ho) h1 hd hc hR hm hx hy h
      | _ => exact oBad_some h
  | lookup t m x ok =>
    rw [ho] at h; dsimp only at h
    cases h1 : P.underlying t with
    | none => rw [h1] at h; exact oBad_some h
    | some d => rw [h1] at h; cases d with
      | map kt et =>
        dsimp only at h
        cases hz : ((P.info? et).bind (·.zero)).bind compV with
        | none => rw [hz] at h; exact oBad_some h
        | some z =>
          rw [hz] at h
          cases hc : keyCode P kt with
          | none => rw [hc] at h; exact oBad_some h
          | some kc =>
            rw [hc] at h
            obtain ⟨d, hd, _⟩ := keyCode_desc hc
            cases hi : P.info? et with
            | none => rw [hi] at hz; cases hz
            | some i => cases hzv : i.zero with
              | none => rw [hi] at hz; simp [hzv] at hz
              | some zv =>
                have hcv : compV zv = some z := by rw [hi] at hz; simpa [hzv] using hz
                exact on2 hE hA h fun x y hx hy h => lookup_ok ho h1 hd hc hi hzv hcv hR hx hy h
      | _ => exact oBad_some h
  | makeSlice t l c =>
    rw [ho] at h; dsimp only at h
    cases h1 : P.underlying t with
    | none => rw [h1] at h; exact oBad_some h
    | some d => rw [h1] at h; cases d with
      | slice el =>
        dsimp only at h
        cases hz : zeroOf P el with
        | none => rw [hz] at h; exact oBad_some h
        | some z => cases hi : P.info? el with
          | none => rw [hz, hi] at h; exact oBad_some h
          | some i => rw [hz, hi] at h; exact on2 hE hA h fun x y hx hy h => mkslice_ok ho h1 hi hz hR hx hy h
      | _ => exact oBad_some h
  | slice t x lo hi mx =>
    rw [ho] at h; dsimp only at h
    cases h1 : P.underlying t with
    | none => rw [h1] at h; exact oBad_some h
    | some d =>
      rw [h1] at h
      cases d with
      | string => cases mx with
        | none =>
          refine on1 hE hA h fun x hx h => ?_
          obtain ⟨lo, hlo, h⟩ := oO_some hE hA h
          obtain ⟨hi, hhi, h⟩ := oO_some hE hA h
          exact sliceS_ok ho h1 hR hx hlo hhi h
        | some m => exact oBad_some h
      | slice el => cases mx with
        | none =>
          dsimp only at h
          by_cases hc : (P.info? el).isSome = true
          · rw [if_pos hc] at h
            refine on1 hE hA h fun x hx h => ?_
            obtain ⟨lo, hlo, h⟩ := oO_some hE hA h
            obtain ⟨hi, hhi, h⟩ := oO_some hE hA h
            exact sliceL_ok ho h1 (Option.isSome_iff_exists.1 hc) hR hx hlo hhi h
          · rw [if_neg hc] at h; exact oBad_some h
        | some m =>
          dsimp only at h
          by_cases hc : (hi.isSome && (P.info? el).isSome) = true
          · rw [if_pos hc] at h
            rw [Bool.and_eq_true] at hc
            refine on1 hE hA h fun x hx h => ?_
            obtain ⟨lo', hlo, h⟩ := oO_some hE hA h
            obtain ⟨hi', hhi, h⟩ := oO_some hE hA h
            refine on1 hE hA h fun m hm h => ?_
            exact slice3_ok ho h1 (Option.isSome_iff_exists.1 hc.2) (by intro e; rw [e] at hc; cases hc.1) hR hx hm hlo hhi h
          · rw [if_neg hc] at h; exact oBad_some h
      | array n el => cases mx with
        | none =>
          dsimp only at h
          by_cases hc : (P.info? el).isSome = true
          · rw [if_pos hc] at h
            refine on1 hE hA h fun x hx h => ?_
            obtain ⟨lo, hlo, h⟩ := oO_some hE hA h
            obtain ⟨hi, hhi, h⟩ := oO_some hE hA h
            exact sliceA_ok ho h1 (Option.isSome_iff_exists.1 hc) hR hx hlo hhi h
          · rw [if_neg hc] at h; exact oBad_some h
        | some m => exact oBad_some h
      | _ => cases mx <;> exact oBad_some h
  | binOp op t x y u =>
    rw [ho] at h
    have plain : compBin P A op t x y call e s k = some q → Does P lc ρ s w (execOp a.eval o) k q := fun h => compBin_ok ho hR hE hA h
    cases op with
    | shr =>
      have bad : compBin P A .shr t x y call e s k = some q → Does P lc ρ s w (execOp a.eval o) k q := plain
      cases y with
      | const v => cases v with
        | int k' n => cases n with
          | ofNat n =>
            dsimp only at h
            cases hu : P.underlying t with
            | none => rw [hu] at h; exact oBad_some h
            | some d => rw [hu] at h; cases d with
              | int kd =>
                dsimp only at h
                by_cases hc : n ≤ kd.bits
                · rw [if_pos hc] at h; exact on1 hE hA h fun x hx h => shr_ok ho rfl hc hR hx h
                · rw [if_neg hc] at h; exact oBad_some h
              | _ => exact oBad_some h
          | negSucc n => exact bad h
        | _ => exact bad h
      | _ => exact bad h
    | _ => exact plain h
  | call c =>
    rw [ho] at h; dsimp only at h
    cases hcal : c.callee with
    | value x => exact absurd ⟨c, x, ho, hcal⟩ hnc
    | invoke r n => rw [hcal] at h; exact oBad_some h
    | builtin b =>
      rw [hcal] at h
      have arg : ∀ (j : Nat) {f : Od → Opr} {G : Prop}, o1 A ((c.args[j]?).getD (.global 0)) f call e s k = some q → (∀ X x, c.args[j]? = some X → Opd ρ (x e) (a.eval X) → f x call e s k = some q → G) → G := fun j f G h g => by
        cases hj : c.args[j]? with
        | none => rw [hj] at h; obtain ⟨x, hx, _⟩ := o1_some h; cases hx
        | some X => rw [hj] at h; exact on1 hE hA h fun x hx h => g X x hj hx h
      cases b with
      | len =>
        dsimp only at h
        cases h0 : c.argTypes[0]? with
        | none => rw [h0] at h; exact oBad_some h
        | some t =>
          rw [h0] at h; dsimp only [Option.bind_some] at h
          cases h1 : P.underlying t with
          | none => rw [h1] at h; exact oBad_some h
          | some d =>
            rw [h1] at h
            cases d with
            | string => exact arg 0 h fun X x ha hx h => lenS_ok ho hcal h0 h1 ha hR hx h
            | slice el => exact arg 0 h fun X x ha hx h => lenL_ok ho hcal h0 h1 ha hR hx h
            | array n el => exact arg 0 h fun X x ha hx h => lenC_ok ho hcal h0 (.inl h1) ha hR h
            | map kt et => exact arg 0 h fun X x ha hx h => lenM_ok ho hcal h0 h1 ha hR hx h
            | pointer u =>
              dsimp only at h
              cases h2 : P.underlying u with
              | none => rw [h2] at h; exact oBad_some h
              | some d2 => rw [h2] at h; cases d2 with
                | array n el => exact arg 0 h fun X x ha hx h => lenC_ok ho hcal h0 (.inr ⟨u, h1, h2⟩) ha hR h
                | _ => exact oBad_some h
            | _ => exact oBad_some h
      | cap =>
        dsimp only at h
        cases h0 : c.argTypes[0]? with
        | none => rw [h0] at h; exact oBad_some h
        | some t =>
          rw [h0] at h; dsimp only [Option.bind_some] at h
          cases h1 : P.underlying t with
          | none => rw [h1] at h; exact oBad_some h
          | some d => rw [h1] at h; cases d with
            | slice el => exact arg 0 h fun X x ha hx h => cap_ok ho hcal h0 h1 ha hR hx h
            | _ => exact oBad_some h
      | min =>
        dsimp only at h
        cases h0 : c.argTypes[0]? with
        | none => rw [h0] at h; exact oBad_some h
        | some t =>
          rw [h0] at h; dsimp only [Option.bind_some] at h
          cases h1 : P.underlying t with
          | none => rw [h1] at h; exact oBad_some h
          | some d => rw [h1] at h; cases d with
            | int kd =>
              dsimp only at h
              by_cases hs : c.args.size = 2
              · rw [if_pos hs] at h; exact arg 0 h fun X x ha hx h => arg 1 h fun Y y hb hy h => min_ok ho hcal hs ha hb hR hx hy h
              · rw [if_neg hs] at h; exact oBad_some h
            | _ => exact oBad_some h
      | max =>
        dsimp only at h
        cases h0 : c.argTypes[0]? with
        | none => rw [h0] at h; exact oBad_some h
        | some t =>
          rw [h0] at h; dsimp only [Option.bind_some] at h
          cases h1 : P.underlying t with
          | none => rw [h1] at h; exact oBad_some h
          | some d => rw [h1] at h; cases d with
            | int kd =>
              dsimp only at h
              by_cases hs : c.args.size = 2
              · rw [if_pos hs] at h; exact arg 0 h fun X x ha hx h => arg 1 h fun Y y hb hy h => max_ok ho hcal hs ha hb hR hx hy h
              · rw [if_neg hs] at h; exact oBad_some h
            | _ => exact oBad_some h
      | append =>
        dsimp only at h
        by_cases hs : c.args.size ≠ 2 ∨ c.argTypes.size ≠ 2
        · rw [if_pos hs] at h; exact oBad_some h
        rw [if_neg hs] at h
        have hs1 : c.args.size = 2 := by omega
        have hs2 : c.argTypes.size = 2 := by omega
        cases h0 : c.argTypes[0]? with
        | none => rw [h0] at h; exact oBad_some h
        | some t => cases h0' : c.argTypes[1]? with
          | none =>
            rw [h0, h0'] at h; dsimp only [Option.bind_some] at h
            cases h1 : P.underlying t with
            | none => rw [h1] at h; exact oBad_some h
            | some d => rw [h1] at h; cases d <;> exact oBad_some h
          | some u =>
            rw [h0, h0'] at h; dsimp only [Option.bind_some] at h
            have hT := arr_two hs2 h0 h0'
            cases h1 : P.underlying t with
            | none => rw [h1] at h; exact oBad_some h
            | some d =>
              rw [h1] at h
              cases h2 : P.underlying u with
              | none => rw [h2] at h; cases d <;> exact oBad_some h
              | some d2 =>
                rw [h2] at h
                cases d with
                | slice el => cases d2 with
                  | slice el' =>
                    dsimp only at h
                    cases hi : P.info? el with
                    | none => rw [hi] at h; exact oBad_some h
                    | some i =>
                      rw [hi] at h
                      cases hz : zeroOf P el with
                      | none => simp only [hz] at h; exact oBad_some h
                      | some z =>
                        simp only [hz] at h
                        exact arg 0 h fun X x ha hx h => arg 1 h fun Y y hb hy h => append_ok ho hcal hT (arr_two hs1 ha hb) h1 h2 hi hz hR hx hy h
                  | string =>
                    dsimp only at h
                    cases hi : P.info? el with
                    | none => rw [hi] at h; exact oBad_some h
                    | some i =>
                      rw [hi] at h
                      cases hz : zeroOf P el with
                      | none => simp only [hz] at h; exact oBad_some h
                      | some z =>
                        simp only [hz] at h
                        by_cases hc : i.size = 1
                        · rw [if_pos hc] at h
                          exact arg 0 h fun X x ha hx h => arg 1 h fun Y y hb hy h => appendS_ok ho hcal hT (arr_two hs1 ha hb) h1 h2 hi hz hc hR hx hy h
                        · rw [if_neg hc] at h; exact oBad_some h
                  | int kd =>
                    dsimp only at h
                    cases hi : P.info? el with
                    | none => rw [hi] at h; exact oBad_some h
                    | some i =>
                      rw [hi] at h
                      cases hz : zeroOf P el with
                      | none => simp only [hz] at h; exact oBad_some h
                      | some z =>
                        simp only [hz] at h
                        exact arg 0 h fun X x ha hx h => arg 1 h fun Y y hb hy h => appendZ_ok ho hcal hT (arr_two hs1 ha hb) h1 h2 hi hz hR hx hy h
                  | _ => exact oBad_some h
                | _ => cases d2 <;> exact oBad_some h
      | _ => exact oBad_some h
  | _ => rw [ho] at h; exact oBad_some h
end
end Go.Lm
