/- Texts of bytes; maps. -/
import Derived.Test.YtnnadeeoejchpaaLmMem6
import Derived.MapKept
set_option linter.all false
namespace Go.Lm
open Go.MapKept (IsKey sameNow_of_keys run_getObj_map run_setObj_map run_checkKey run_findKey)
section
variable {P : Program} {lc : Lc}
variable {ρ : Rho} {s : St} {w : World} {k : K} {q : V × St} {call : Caller} {e : Env}
variable {t u : TypeId} {X Y Z : Operand} {ev : Operand → Value} {o : Oper} {x y z : Od} {c : Call}

theorem by3_some {n : Nat} {f : Bool → Res} (h : by3 n f = some q) : (n = 0 ∧ f false = some q) ∨ (n = 1 ∧ f true = some q) := by
  match n with
  | 0 => exact .inl ⟨rfl, h⟩
  | 1 => exact .inr ⟨rfl, h⟩
  | n + 2 => cases h

theorem str_inj {a b : ByteArray} (h : a.data.toList.map (·.toNat) = b.data.toList.map (·.toNat)) : a = b := by
  have inj : ∀ (l m : List UInt8), l.map (·.toNat) = m.map (·.toNat) → l = m := by
    intro l
    induction l with
    | nil => intro m h; cases m with
      | nil => rfl
      | cons => cases h
    | cons a l ih => intro m h; cases m with
      | nil => cases h
      | cons b m => simp only [List.map_cons, List.cons.injEq] at h; rw [UInt8.toNat_inj.1 h.1, ih m h.2]
  have := inj _ _ h
  cases a; cases b; congr; exact Array.ext' this

theorem bool_t {v : V} {X : Value} (hv : VR ρ v X) (h : v.t ≤ 1) : X = .bool (Nat.beq v.t 1) := by
  have : v.t = 0 ∨ v.t = 1 := by omega
  rcases this with h | h
  · rw [h]; exact hv.inv_f h
  · rw [h]; exact hv.inv_t h

theorem mapKey_is {kt : TypeId} {kc : Nat} {d : TypeDesc} {v : V} {X : Value} (hc : keyCode P kt = some kc) (hd : P.underlying kt = some d) (hv : VR ρ v X) (h : mapKey kc v = true) : IsKey d X := by
  unfold keyCode at hc
  rw [hd] at hc
  unfold mapKey at h
  cases d <;> simp at hc
  case bool =>
    subst hc
    have h : Nat.ble v.t 1 = true := h
    rw [bool_t hv (ble_t.1 h)]; trivial
  case int kd =>
    subst hc
    have hk := ofK_even kd
    rw [beq_f.2 (by omega), bs_false, beq_f.2 (by omega), bs_false, bs_ite] at h
    by_cases e : v.t = ofK kd
    · rw [hv.inv_int e]; rfl
    · rw [beq_f.2 e] at h
      have h : Nat.beq v.t (ofK kd + 1) = true := h
      rw [hv.inv_neg (beq_t.1 h)]; rfl
  case string =>
    subst hc
    have h : Nat.beq v.t 3 = true := h
    obtain ⟨b, hb, _⟩ := hv.inv_str (beq_t.1 h)
    rw [hb]; trivial

theorem eqFlat_key {d : TypeDesc} {x y : V} {K Y : Value} (hK : IsKey d K) (hx : VR ρ x K) (hy : VR ρ y Y) (h2 : eqFlat x y ≤ 1) : IsKey d Y ∧ (eqFlat x y = 1 ↔ K = Y) := by
  unfold eqFlat at h2 ⊢
  by_cases e3 : x.t = 3
  · rw [beq_t.2 e3, bs_true] at h2 ⊢
    by_cases f3 : y.t = 3
    · rw [beq_t.2 f3, bs_true] at h2 ⊢
      obtain ⟨a, ha, ha'⟩ := hx.inv_str e3
      obtain ⟨b, hb, hb'⟩ := hy.inv_str f3
      subst ha; subst hb
      refine ⟨by cases d <;> simp_all [IsKey], ?_⟩
      rw [eqNs_iff, ha', hb', bs_ite]
      by_cases g : a = b
      · subst g; simp
      · have : ¬ (a.data.toList.map (·.toNat) = b.data.toList.map (·.toNat)) := fun h => g (str_inj h)
        simp [g, this]
    · rw [beq_f.2 f3] at h2; exact absurd h2 (by show ¬ 2 ≤ 1; omega)
  · rw [beq_f.2 e3, bs_false] at h2 ⊢
    by_cases e1 : x.t ≤ 1
    · rw [ble_t.2 e1, bs_true] at h2 ⊢
      by_cases f1 : y.t ≤ 1
      · rw [ble_t.2 f1, bs_true] at h2 ⊢
        have ha := bool_t hx e1; have hb := bool_t hy f1
        subst ha; subst hb
        refine ⟨by cases d <;> simp_all [IsKey], ?_⟩
        have h1 : x.t = 0 ∨ x.t = 1 := by omega
        have h2 : y.t = 0 ∨ y.t = 1 := by omega
        rcases h1 with h1 | h1 <;> rcases h2 with h2 | h2 <;> rw [h1, h2]
        · exact ⟨fun _ => rfl, fun _ => rfl⟩
        · exact ⟨(fun h => by cases h), (fun h => by cases h)⟩
        · exact ⟨(fun h => by cases h), (fun h => by cases h)⟩
        · exact ⟨fun _ => rfl, fun _ => rfl⟩
      · rw [ble_f.2 (by omega)] at h2; exact absurd h2 (by show ¬ 2 ≤ 1; omega)
    · rw [ble_f.2 (by omega), bs_false] at h2 ⊢
      by_cases e16 : 16 ≤ x.t
      · rw [ble_t.2 e16, bs_true] at h2 ⊢
        by_cases f : x.t / 2 = y.t / 2
        · rw [show Nat.beq (Nat.div x.t 2) (Nat.div y.t 2) = true from beq_t.2 f, bs_true] at h2 ⊢
          obtain ⟨kd, n, hA, hA'⟩ := hx.inv_any_int e16
          obtain ⟨kd', m, hB, hB'⟩ := hy.inv_any_int (by omega)
          have hk := ofK_even kd; have hk' := ofK_even kd'
          have : kd = kd' := ofK_inj (by rcases hA' with ⟨h, _⟩ | ⟨h, _⟩ <;> rcases hB' with ⟨h', _⟩ | ⟨h', _⟩ <;> omega)
          subst this; subst hA; subst hB
          refine ⟨by cases d <;> simp_all [IsKey], ?_⟩
          unfold eqZ
          by_cases g : x.t = y.t
          · rw [beq_t.2 g, bs_true]
            by_cases g2 : x.a = y.a
            · rw [beq_t.2 g2]
              rcases hA' with ⟨h, r⟩ | ⟨h, r⟩ <;> rcases hB' with ⟨h', r'⟩ | ⟨h', r'⟩
              · simp [r, r', g2]
              · exfalso; omega
              · exfalso; omega
              · simp [r, r', g2]
            · rw [beq_f.2 g2]
              rcases hA' with ⟨h, r⟩ | ⟨h, r⟩ <;> rcases hB' with ⟨h', r'⟩ | ⟨h', r'⟩
              · simp [r, r', g2]; omega
              · exfalso; omega
              · exfalso; omega
              · simp [r, r', g2]
          · rw [beq_f.2 g, bs_false]
            rcases hA' with ⟨h, r⟩ | ⟨h, r⟩ <;> rcases hB' with ⟨h', r'⟩ | ⟨h', r'⟩
            · exfalso; omega
            · simp [r, r']; 
            · simp [r, r']; 
            · exfalso; omega
        · rw [show Nat.beq (Nat.div x.t 2) (Nat.div y.t 2) = false from beq_f.2 f] at h2; exact absurd h2 (by show ¬ 2 ≤ 1; omega)
      · rw [ble_f.2 (by omega)] at h2; exact absurd h2 (by show ¬ 2 ≤ 1; omega)

theorem findKey_cons {key : V} {p : V × V} {es : List (V × V)} {f : V → Res} {n : Res} : findKey key (p :: es) f n = by3 (eqFlat key p.1) fun b => bs b (f p.2) (findKey key es f n) := rfl
theorem findKey_some {d : TypeDesc} {key : V} {KV : Value} (hK : IsKey d KV) (hk : VR ρ key KV) {f : V → Res} {n : Res} : ∀ {es : List (V × V)} {l : List MapEntry} (i : Nat), ER ρ es l → findKey key es f n = some q →
    (∃ (j : Nat) (v : V) (e : MapEntry), f v = some q ∧ Instr.findNow d KV l i = some (some (i + j, e.val)) ∧ VR ρ v e.val) ∨ (n = some q ∧ Instr.findNow d KV l i = some none)
  | _, _, i, .nil, h => .inr ⟨h, rfl⟩
  | _, _, i, @ER.cons _ kk vv e _ _ h1 h2 h3, h => by
    rw [findKey_cons] at h
    have hle : eqFlat key kk ≤ 1 := by rcases by3_some h with ⟨h, _⟩ | ⟨h, _⟩ <;> (have h : eqFlat key kk = _ := h; omega)
    obtain ⟨k1, k2⟩ := eqFlat_key hK hk h1 hle
    obtain ⟨r, hr, hiff⟩ := sameNow_of_keys hK k1
    rcases by3_some h with ⟨h4, h⟩ | ⟨h4, h⟩
    · have h4 : eqFlat key kk = 0 := h4
      have hf : r = false := by cases r; rfl; have := k2.2 (hiff.1 rfl); omega
      subst hf
      rcases findKey_some hK hk (i + 1) h3 h with ⟨j, v, e', g1, g2, g3⟩ | ⟨g1, g2⟩
      · exact .inl ⟨j + 1, v, e', g1, by simp [Instr.findNow, hr, g2]; omega, g3⟩
      · exact .inr ⟨g1, by simp [Instr.findNow, hr, g2]⟩
    · have ht : r = true := hiff.2 (k2.1 h4)
      subst ht
      exact .inl ⟨0, vv, e, h, by simp [Instr.findNow, hr], h2⟩

theorem map_cell (hR : Rel lc ρ s w) {a : Nat} {p : Pl} (hp : ρ a = some p) (ht : (s.at a).t = 2) : ∃ es ck, w.heap[p.blk]? = some (.map es ck) ∧ ER ρ (s.at a).es es.toList := by
  have hl : Live s a (s.at a) := at_live rfl (by omega)
  obtain ⟨p', hp', _, _, h2, _⟩ := hR.cell a _ hl
  rw [hp] at hp'; cases hp'
  exact (h2 ht).2

theorem lookup_ok {kt et : TypeId} {kc : Nat} {d : TypeDesc} {ok : Bool} {zv : V} {i : TypeInfo} {ZV : Value} (ho : o.op = .lookup t X Y ok) (h1 : P.underlying t = some (.map kt et)) (hd : P.underlying kt = some d) (hc : keyCode P kt = some kc)
    (hi : P.info? et = some i) (hz : i.zero = some ZV) (hcv : compV ZV = some zv)
    (hR : Rel lc ρ s w) (hx : Opd ρ (x e) (ev X)) (hy : Opd ρ (y e) (ev Y)) (h : oLookup kc zv x y ok call e s k = some q) : Does P lc ρ s w (execOp ev o) k q := by
  obtain ⟨m, h, hm⟩ := hx _ _ h
  obtain ⟨key, h, hk⟩ := hy _ _ h
  obtain ⟨h2, h⟩ := chk_some.1 h
  obtain ⟨h3, h⟩ := chk_some.1 h
  obtain ⟨h4, h⟩ := chk_some.1 h
  obtain ⟨p, hp, hown, hM⟩ := hm.inv_map (beq_t.1 h2)
  obtain ⟨es, ck, hb, hes⟩ := map_cell hR hp (beq_t.1 h4)
  have hK := mapKey_is hc hd hk h3
  have run : ∀ (r : Option (Nat × Value)), Instr.findNow d (ev Y) es.toList 0 = some r → (execOp ev o).run P w = .ok (.value (let vo : Value × Bool := (match r with | some (_, v) => (v, true) | none => (ZV, false)); if ok then .tuple #[vo.1, .bool vo.2] else vo.1)) w := fun r hr => by
    unfold execOp; rw [ho]; dsimp only; rw [hM]
    refine vrun ?_
    simp only [Instr.lookup, Sem.run_bind, run_underlying h1, Result.andThen_ok, run_getObj_map hb, Sem.run_pure, run_checkKey hd hK, run_findKey hd hr]
    cases r with
    | none => simp only [Sem.run_bind, run_zeroValue hi hz, Result.andThen_ok, Sem.run_pure]
    | some r => rfl
  rcases findKey_some hK hk 0 hes h with ⟨j, v, e', g1, g2, g3⟩ | ⟨g1, g2⟩
  · have := run _ g2
    cases ok with
    | true => exact .same hR g1 this (.tup (.cons g3 (.cons .t .nil)))
    | false => exact .same hR g1 this g3
  · have := run _ g2
    cases ok with
    | true => exact .same hR g1 this (.tup (.cons (compV_ok _ _ hcv) (.cons .f .nil)))
    | false => exact .same hR g1 this (compV_ok _ _ hcv)

theorem mkmap_ok (ho : o.op = .makeMap t none) (hR : Rel lc ρ s w) (h : oMkmap call e s k = some q) : Does P lc ρ s w (execOp ev o) k q := by
  have h : newK s ⟨2, 0, [], .nl, 0, 0, [], []⟩ (fun a s => k (vMap a) s) = some q := h
  unfold newK at h
  rw [setK_eq, fN_eq] at h
  have hg := hR.alloc (c := ⟨2, 0, [], .nl, 0, 0, [], []⟩) (p := ⟨w.heap.size, 0, true, 0, 0⟩) (o := .map #[] 0) rfl rfl
    ⟨(fun e => by cases e), (fun e => by cases e), (fun _ => ⟨rfl, #[], 0, by rw [heap_alloc]; simp, .nil⟩), (fun e => by cases e), by simp⟩
  refine ⟨_, _, _, _, .map (some w.heap.size), h, .inl ?_, hg, ?_⟩
  · unfold execOp; rw [ho]; dsimp only
    refine vrun ?_
    simp only [Instr.makeMap, Option.map_none, Sem.run_bind]; rfl
  · exact .map (p := ⟨w.heap.size, 0, true, 0, 0⟩) (Rho.put_self _ _ _) rfl

theorem lenM_ok {kt et : TypeId} (ho : o.op = .call c) (hc : c.callee = .builtin .len) (h0 : c.argTypes[0]? = some t) (h1 : P.underlying t = some (.map kt et)) (ha : c.args[0]? = some X)
    (hR : Rel lc ρ s w) (hx : Opd ρ (x e) (ev X)) (h : oLenM x call e s k = some q) : Does P lc ρ s w (execOp ev o) k q := by
  obtain ⟨v, h, hv⟩ := hx _ _ h
  obtain ⟨h2, h⟩ := chk_some.1 h
  obtain ⟨h3, h⟩ := chk_some.1 h
  rw [fN_eq] at h
  obtain ⟨p, hp, hown, hM⟩ := hv.inv_map (beq_t.1 h2)
  obtain ⟨es, ck, hb, hes⟩ := map_cell hR hp (beq_t.1 h3)
  have hlen : ∀ {l : List (V × V)} {l' : List MapEntry}, ER ρ l l' → l.length = l'.length := fun {l l'} h => by
    induction h with
    | nil => rfl
    | cons _ _ _ ih => simp [ih]
  obtain ⟨cs, hrun⟩ := exec_builtin (P := P) (w := w) (ev := ev) ho hc
  refine .same (rv := .int .i64 (.ofNat (s.at v.a).es.length)) hR h ?_ (.int .i64 _)
  rw [hrun]
  refine vrun ?_
  simp only [Builtin.len_, h0, arg_get ha, hM, Sem.run_bind, run_underlying h1, Result.andThen_ok, run_getObj_map hb, goInt, Sem.run_pure, hlen hes]
  rfl
end
end Go.Lm
