/- Builtins without memory, slices of what there is, comparisons with nil and of structs, structs that are built. -/
import Derived.Test.YtnnadeeoejchpaaLmOps3
set_option linter.all false
namespace Go.Lm
section
variable {P : Program} {lc : Lc}
variable {ρ : Rho} {s : St} {w : World} {k : K} {q : V × St} {call : Caller} {e : Env}
variable {t u : TypeId} {X Y : Operand} {ev : Operand → Value} {o : Oper} {x y : Od} {c : Call}

theorem exec_builtin {b : Builtin} (ho : o.op = .call c) (hc : c.callee = .builtin b) : ∃ cs, (execOp ev o).run P w = (builtin b c.argTypes o.type cs (c.args.map ev)).run P w := by
  unfold execOp; rw [ho]
  simp only [resolve, hc, Sem.run_bind, Sem.run_pure, Result.andThen_ok, invoke]
  exact ⟨_, rfl⟩
theorem arg_get {j : Nat} (h : c.args[j]? = some X) : (c.args.map ev)[j]? = some (ev X) := by simp [h]

theorem lenS_ok (ho : o.op = .call c) (hc : c.callee = .builtin .len) (h0 : c.argTypes[0]? = some t) (h1 : P.underlying t = some .string) (ha : c.args[0]? = some X)
    (hR : Rel lc ρ s w) (hx : Opd ρ (x e) (ev X)) (h : oLenS x call e s k = some q) : Does P lc ρ s w (execOp ev o) k q := by
  obtain ⟨v, h, hv⟩ := hx _ _ h
  obtain ⟨h3, h⟩ := chk_some.1 h
  rw [fN_eq] at h
  obtain ⟨b, hb, hvb⟩ := hv.inv_str (beq_t.1 h3)
  obtain ⟨cs, hrun⟩ := exec_builtin (P := P) (w := w) (ev := ev) ho hc
  refine .same (rv := .int .i64 (.ofNat v.s.length)) hR h ?_ (.int .i64 _)
  rw [hrun]
  refine vrun ?_
  simp only [Builtin.len_, h0, arg_get ha, hb, Sem.run_bind, run_underlying h1, Result.andThen_ok, goInt, Sem.run_pure]
  have : b.size = v.s.length := by rw [size_len b, hvb]; rfl
  rw [this]; rfl
theorem lenL_ok {el : TypeId} (ho : o.op = .call c) (hc : c.callee = .builtin .len) (h0 : c.argTypes[0]? = some t) (h1 : P.underlying t = some (.slice el)) (ha : c.args[0]? = some X)
    (hR : Rel lc ρ s w) (hx : Opd ρ (x e) (ev X)) (h : oLenL x call e s k = some q) : Does P lc ρ s w (execOp ev o) k q := by
  obtain ⟨v, h, hv⟩ := hx _ _ h
  obtain ⟨h3, h⟩ := chk_some.1 h
  obtain ⟨a, n, cap, hA, hn, _⟩ := isS_some hv h3
  obtain ⟨cs, hrun⟩ := exec_builtin (P := P) (w := w) (ev := ev) ho hc
  refine .same (rv := .int .i64 (.ofNat v.c)) hR h ?_ (.int .i64 _)
  rw [hrun]
  refine vrun ?_
  simp only [Builtin.len_, h0, arg_get ha, hA, Sem.run_bind, run_underlying h1, Result.andThen_ok, goInt, Sem.run_pure, hn]
  rfl
theorem lenC_ok {el : TypeId} {n : Nat} (ho : o.op = .call c) (hc : c.callee = .builtin .len) (h0 : c.argTypes[0]? = some t)
    (h1 : P.underlying t = some (.array n el) ∨ ∃ u, P.underlying t = some (.pointer u) ∧ P.underlying u = some (.array n el)) (ha : c.args[0]? = some X)
    (hR : Rel lc ρ s w) (h : oLenC n x call e s k = some q) : Does P lc ρ s w (execOp ev o) k q := by
  obtain ⟨cs, hrun⟩ := exec_builtin (P := P) (w := w) (ev := ev) ho hc
  refine .same (rv := .int .i64 (.ofNat n)) hR h ?_ (.int .i64 _)
  rw [hrun]
  refine vrun ?_
  rcases h1 with h1 | ⟨u, h1, h2⟩
  · simp only [Builtin.len_, h0, arg_get ha, Sem.run_bind, run_underlying h1, Result.andThen_ok, goInt, Sem.run_pure]; rfl
  · simp only [Builtin.len_, h0, arg_get ha, Sem.run_bind, run_underlying h1, run_underlying h2, Result.andThen_ok, goInt, Sem.run_pure]; rfl
theorem cap_ok {el : TypeId} (ho : o.op = .call c) (hc : c.callee = .builtin .cap) (h0 : c.argTypes[0]? = some t) (h1 : P.underlying t = some (.slice el)) (ha : c.args[0]? = some X)
    (hR : Rel lc ρ s w) (hx : Opd ρ (x e) (ev X)) (h : oCap x call e s k = some q) : Does P lc ρ s w (execOp ev o) k q := by
  obtain ⟨v, h, hv⟩ := hx _ _ h
  obtain ⟨cs, hrun⟩ := exec_builtin (P := P) (w := w) (ev := ev) ho hc
  rcases bs_some.1 h with ⟨h3, h⟩ | ⟨_, h⟩
  · obtain ⟨hA, _, _⟩ := hv.inv_nils (beq_t.1 h3)
    refine .same (rv := .int .i64 (.ofNat 0)) hR h ?_ (.int .i64 _)
    rw [hrun]
    refine vrun ?_
    simp only [Builtin.cap_, h0, arg_get ha, hA, Sem.run_bind, run_underlying h1, Result.andThen_ok, goInt, Sem.run_pure]; rfl
  · obtain ⟨h3, h⟩ := chk_some.1 h
    obtain ⟨p, A, _, hA, _⟩ := hv.inv_sx (beq_t.1 h3)
    refine .same (rv := .int .i64 (.ofNat v.c)) hR h ?_ (.int .i64 _)
    rw [hrun]
    refine vrun ?_
    simp only [Builtin.cap_, h0, arg_get ha, hA, Sem.run_bind, run_underlying h1, Result.andThen_ok, goInt, Sem.run_pure]; rfl

theorem args_two (h : c.args.size = 2) {A B : Operand} (h0 : c.args[0]? = some A) (h1 : c.args[1]? = some B) : (c.args.map ev).toList = [ev A, ev B] := by
  have hl : c.args.toList.length = 2 := by simpa using h
  match hx : c.args.toList, hl with
  | [a, b], _ =>
    have e0 : c.args.toList[0]? = some A := by simpa using h0
    have e1 : c.args.toList[1]? = some B := by simpa using h1
    rw [hx] at e0 e1; simp at e0 e1; subst e0; subst e1
    simp [hx]
theorem max_ok {kd : IntKind} (ho : o.op = .call c) (hc : c.callee = .builtin .max) (h2 : c.args.size = 2) (ha : c.args[0]? = some X) (hb : c.args[1]? = some Y)
    (hR : Rel lc ρ s w) (hx : Opd ρ (x e) (ev X)) (hy : Opd ρ (y e) (ev Y)) (h : oMax (ofK kd) x y call e s k = some q) : Does P lc ρ s w (execOp ev o) k q := by
  obtain ⟨v, h, hv⟩ := hx _ _ h
  obtain ⟨z, h, hz⟩ := hy _ _ h
  obtain ⟨a, b, hA, hB, h⟩ := leI_some hv hz h
  obtain ⟨cs, hrun⟩ := exec_builtin (P := P) (w := w) (ev := ev) ho hc
  have run : ∀ r, r = (if b > a then b else a) → (execOp ev o).run P w = .ok (.value (.int kd r)) w := fun r hr => by
    rw [hrun]
    refine vrun ?_
    simp only [Builtin.max_, args_two h2 ha hb, hA, hB, List.foldlM_cons, List.foldlM_nil, Builtin.max2, hr]; rfl
  rw [hA] at hv; rw [hB] at hz
  by_cases hle : a ≤ b
  · rw [decide_eq_true hle] at h
    exact .same hR h (run b (by split <;> omega)) hz
  · rw [decide_eq_false hle] at h
    exact .same hR h (run a (by rw [if_neg (by omega)])) hv
theorem min_ok {kd : IntKind} (ho : o.op = .call c) (hc : c.callee = .builtin .min) (h2 : c.args.size = 2) (ha : c.args[0]? = some X) (hb : c.args[1]? = some Y)
    (hR : Rel lc ρ s w) (hx : Opd ρ (x e) (ev X)) (hy : Opd ρ (y e) (ev Y)) (h : oMin (ofK kd) x y call e s k = some q) : Does P lc ρ s w (execOp ev o) k q := by
  obtain ⟨v, h, hv⟩ := hx _ _ h
  obtain ⟨z, h, hz⟩ := hy _ _ h
  obtain ⟨a, b, hA, hB, h⟩ := leI_some hv hz h
  obtain ⟨cs, hrun⟩ := exec_builtin (P := P) (w := w) (ev := ev) ho hc
  have run : ∀ r, r = (if b < a then b else a) → (execOp ev o).run P w = .ok (.value (.int kd r)) w := fun r hr => by
    rw [hrun]
    refine vrun ?_
    simp only [Builtin.min_, args_two h2 ha hb, hA, hB, List.foldlM_cons, List.foldlM_nil, Builtin.min2, hr]; rfl
  rw [hA] at hv; rw [hB] at hz
  by_cases hle : a ≤ b
  · rw [decide_eq_true hle] at h
    exact .same hR h (run a (by rw [if_neg (by omega)])) hv
  · rw [decide_eq_false hle] at h
    exact .same hR h (run b (by rw [if_pos (by omega)])) hz

theorem mkfn_ok {f : Nat} {first captured : Array Operand} {l : List Od} (ho : o.op = .makeFunc (.func f) first captured) (hf : first.size = 0)
    (hR : Rel lc ρ s w) (hx : Opds ρ (evL l e) (captured.toList.map ev)) (h : oMkfn f l call e s k = some q) : Does P lc ρ s w (execOp ev o) k q := by
  obtain ⟨v, h, hv⟩ := hx _ _ h
  refine .same hR h ?_ (.fn hv)
  unfold execOp; rw [ho]
  refine vrun ?_
  have e1 : first.map ev = #[] := by have := Array.size_eq_zero_iff.1 hf; rw [this]; simp
  have e2 : captured.map ev = ⟨captured.toList.map ev⟩ := by apply Array.toList_inj.1; simp
  simp only [Instr.makeFunc, e1, e2]; rfl

/-! slices -/
inductive OpdO (ρ : Rho) (ev : Operand → Value) (e : Env) : Option Od → Option Operand → Prop
  | none : OpdO ρ ev e none none
  | some {x : Od} {X : Operand} : Opd ρ (x e) (ev X) → OpdO ρ ev e (some x) (some X)
/-- a bound, in the machine -/
def bndV (n d : Nat) : Option Value → Prop
  | none => n = d
  | some v => v = .int .i64 (.ofNat n)
theorem bnd_some {b : Option Od} {B : Option Operand} {d : Nat} {f : Nat → Res} (hb : OpdO ρ ev e b B) (h : bnd b e d f = some q) : ∃ n, f n = some q ∧ bndV n d (B.map ev) := by
  cases hb with
  | none => exact ⟨d, h, rfl⟩
  | some hx =>
    obtain ⟨v, h, hv⟩ := hx _ _ h
    obtain ⟨h1, h⟩ := chk_some.1 h
    exact ⟨_, h, i64_of hv (beq_t.1 h1)⟩
theorem bound_run {n y : Nat} {code : BoundsCode} (h : n ≤ y) : (Instr.sliceBound (.int .i64 (.ofNat n)) y code).run P w = .ok n w := by
  simp only [Instr.sliceBound, Sem.run_bind, asIntOf, Sem.run_pure, Result.andThen_ok]
  rw [if_pos (by constructor <;> simp <;> omega)]
  simp
theorem bounds_run {b : Bool} {len cap l h : Nat} {lo hi : Option Value} (hh : bndV h len hi) (hl : bndV l 0 lo) (h1 : h ≤ cap) (h2 : l ≤ h) :
    (Instr.sliceBounds b len cap lo hi none).run P w = .ok (l, h, cap) w := by
  cases hi with
  | none =>
    cases lo with
    | none => cases hh; cases hl; rfl
    | some v => cases hh; cases hl; simp only [Instr.sliceBounds, Sem.run_bind, Sem.run_pure, Result.andThen_ok, bound_run h2]
  | some z =>
    cases hh
    cases lo with
    | none => cases hl; simp only [Instr.sliceBounds, Sem.run_bind, Sem.run_pure, Result.andThen_ok, bound_run h1]
    | some v => cases hl; simp only [Instr.sliceBounds, Sem.run_bind, Sem.run_pure, Result.andThen_ok, bound_run h1, bound_run h2]
theorem bounds3_run {len cap l h : Nat} {lo hi : Option Value} (hh : bndV h len hi) (hl : bndV l 0 lo) (hs : hi ≠ none) (h1 : h ≤ cap) (h2 : l ≤ h) :
    (Instr.sliceBounds true len cap lo hi (some (.int .i64 (.ofNat h)))).run P w = .ok (l, h, h) w := by
  cases hi with
  | none => exact absurd rfl hs
  | some z =>
    cases hh
    cases lo with
    | none => cases hl; simp only [Instr.sliceBounds, Sem.run_bind, Sem.run_pure, Result.andThen_ok, bound_run h1, bound_run (Nat.le_refl h)]
    | some v => cases hl; simp only [Instr.sliceBounds, Sem.run_bind, Sem.run_pure, Result.andThen_ok, bound_run h1, bound_run (Nat.le_refl h), bound_run h2]

theorem tn_extract (a : ByteArray) (l h : Nat) : tn (a.extract l h) = ((tn a).take h).drop l := by
  unfold tn
  have : (a.extract l h).data.toList = (a.data.toList.take h).drop l := by
    rw [ByteArray.data_extract]; simp [List.drop_take]
  rw [this]; simp [List.map_drop, List.map_take]
theorem sliceS_ok {lo hi : Option Od} {LO HI : Option Operand} (ho : o.op = .slice t X LO HI none) (h1 : P.underlying t = some .string)
    (hR : Rel lc ρ s w) (hx : Opd ρ (x e) (ev X)) (hlo : OpdO ρ ev e lo LO) (hhi : OpdO ρ ev e hi HI) (h : oSliceS x lo hi call e s k = some q) : Does P lc ρ s w (execOp ev o) k q := by
  obtain ⟨v, h, hv⟩ := hx _ _ h
  obtain ⟨h3, h⟩ := chk_some.1 h
  obtain ⟨b, hA, hb⟩ := hv.inv_str (beq_t.1 h3)
  obtain ⟨n, h, hn⟩ := bnd_some hhi h
  obtain ⟨m, h, hm⟩ := bnd_some hlo h
  obtain ⟨h4, h⟩ := chk_some.1 h
  obtain ⟨h5, h⟩ := chk_some.1 h
  rw [fS_eq] at h
  have hlen : v.s.length = b.size := by rw [size_len, hb]; rfl
  have h4' := ble_t.1 h4; have h5' := ble_t.1 h5
  rw [hlen] at h4' hn
  refine .same (rv := .string (b.extract m n)) hR h ?_ (by rw [hb]; have := vr_str (ρ := ρ) (b.extract m n); rw [tn_extract] at this; exact this)
  unfold execOp; rw [ho]; dsimp only; rw [hA]
  refine vrun ?_
  simp only [Instr.sliceAt, Sem.run_bind, run_underlying h1, Result.andThen_ok, Instr.slice, Option.map_none, Option.isSome_none, Bool.false_eq_true, if_false, bounds_run hn hm h4' h5']
  rfl
end
end Go.Lm
