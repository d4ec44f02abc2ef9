/- Addresses, parts, lengths. -/
import Derived.Test.YtnnadeeoejchpaaLmOps2
set_option linter.all false
namespace Go.Lm
section
variable {P : Program} {lc : Lc}
variable {ρ : Rho} {s : St} {w : World} {k : K} {q : V × St} {call : Caller} {e : Env}
variable {t u : TypeId} {X Y : Operand} {ev : Operand → Value} {o : Oper} {x y : Od}

theorem info_of_cells {t : TypeId} (h : P.cellsOf t ≠ 0) : ∃ i, P.info? t = some i := by
  unfold Program.cellsOf at h
  cases e : P.info? t with
  | some i => exact ⟨i, rfl⟩
  | none => rw [e] at h; exact absurd rfl h

theorem faddr_ok {st : TypeId} {f : Nat} {fs : Array Field} {fd : Field} (ho : o.op = .fieldAddr st X f) (h1 : P.underlying st = some (.struct fs)) (h2 : fs[f]? = some fd) (h3 : P.cellsOf fd.type ≠ 0)
    (hR : Rel lc ρ s w) (hx : Opd ρ (x e) (ev X)) (h : oFaddr fd.offset x call e s k = some q) : Does P lc ρ s w (execOp ev o) k q := by
  obtain ⟨v, h, hv⟩ := hx _ _ h
  obtain ⟨h4, h⟩ := chk_some.1 h
  rw [fN_eq] at h
  obtain ⟨p, hp, ha⟩ := hv.inv_ptr (beq_t.1 h4)
  obtain ⟨i, hi⟩ := info_of_cells h3
  refine .same (rv := .pointer (some ⟨p.blk, p.base + v.b + fd.offset, none⟩)) hR h ?_ (by have := VR.ptr (b := v.b + fd.offset) hp; rw [← Nat.add_assoc] at this; exact this)
  unfold execOp; rw [ho]; dsimp only; rw [ha]
  refine vrun ?_
  simp only [Instr.fieldAt, Sem.run_bind, run_underlying h1, Result.andThen_ok, h2, Instr.sureAddr, fieldPlace, run_sizeOf hi, if_neg h3, Sem.run_pure, addr_add]

theorem extract_list (l : List Value) (a n : Nat) : (({ toList := l } : Array Value).extract a (a + n)) = { toList := (l.drop a).take n } := by
  have h : l.toArray.extract a (a + n) = (l.extract a (a + n)).toArray := List.extract_toArray
  have h2 : l.extract a (a + n) = (l.drop a).take n := by unfold List.extract; rw [show a + n - a = n by omega]
  rw [h2] at h; exact h

theorem aggOr_some {agg : Bool} {l : List V} {l' : List Value} {f : KV} (hl : VRL ρ l l') (ha : ∀ v ∈ l', atom v) (h : aggOr agg l f = some q) :
    ∃ v r, f v = some q ∧ VR ρ v r ∧ ((agg = true ∧ r = .agg ⟨l'⟩) ∨ (agg = false ∧ l' = [r])) := by
  rcases bs_some.1 h with ⟨h1, h⟩ | ⟨h1, h⟩
  · exact ⟨_, _, h, .agg hl ha, .inl ⟨h1, rfl⟩⟩
  · cases hl with
    | nil => cases h
    | cons a b => cases b with
      | nil => exact ⟨_, _, h, a, .inr ⟨h1, rfl⟩⟩
      | cons c d => cases h

theorem run_part {t : TypeId} {g : Bool} {l l' : List Value} {off : Nat} {r : Value} (hg : isAggT P t = some g) (hl : l' = (l.drop off).take (bif g then P.cellsOf t else 1)) (hn : off + (bif g then P.cellsOf t else 1) ≤ l.length)
    (h : (g = true ∧ r = .agg ⟨l'⟩) ∨ (g = false ∧ l' = [r])) : (part t ⟨l⟩ off).run P w = .ok r w := by
  obtain ⟨i, hi⟩ := isAgg_info hg
  rcases h with ⟨rfl, rfl⟩ | ⟨rfl, h⟩
  · simp only [part, Sem.run_bind, run_isAgg hg, Result.andThen_ok, if_true, run_sizeOf hi]
    rw [extract_list, hl]; rfl
  · simp only [part, Sem.run_bind, run_isAgg hg, Result.andThen_ok]
    have : (({ toList := l } : Array Value)[off]? : Option Value) = some r := by
      have h2 : (l.drop off).take 1 = [r] := by rw [← h, hl]; rfl
      cases h3 : l.drop off with
      | nil => rw [h3] at h2; simp at h2
      | cons a m =>
        rw [h3] at h2; simp at h2; subst h2
        have : l[off]? = (l.drop off)[0]? := by simp
        show l.toArray[off]? = _
        simp [this, h3]
    rw [this]; rfl

theorem field_ok {st : TypeId} {f : Nat} {fs : Array Field} {fd : Field} {g : Bool} (ho : o.op = .field st X f) (h1 : P.underlying st = some (.struct fs)) (h2 : fs[f]? = some fd) (h3 : isAggT P fd.type = some g)
    (hR : Rel lc ρ s w) (hx : Opd ρ (x e) (ev X)) (h : oField g fd.offset (bif g then P.cellsOf fd.type else 1) x call e s k = some q) : Does P lc ρ s w (execOp ev o) k q := by
  obtain ⟨v, h, hv⟩ := hx _ _ h
  obtain ⟨h4, h⟩ := chk_some.1 h
  obtain ⟨h5, h⟩ := chk_some.1 h
  rw [normK_eq] at h
  obtain ⟨l', hl, hat, ha⟩ := hv.inv_agg (beq_t.1 h4)
  obtain ⟨r, R, hk, hr, hc⟩ := aggOr_some ((hl.drop fd.offset).take (bif g then P.cellsOf fd.type else 1)) (fun z hz => hat z (List.mem_of_mem_drop (List.mem_of_mem_take hz))) h
  refine .same hR hk ?_ hr
  unfold execOp; rw [ho]; dsimp only; rw [ha]
  refine vrun ?_
  have h5' := ble_t.1 h5
  simp only [Instr.field, Sem.run_bind, run_underlying h1, Result.andThen_ok, h2, asAgg, Sem.run_pure]
  exact run_part h3 rfl (by rw [← hl.length]; exact h5') hc

/-- a slice: where its elements lie, if it has some -/
theorem isS_some {v : V} {A : Value} (hv : VR ρ v A) (h : isS v = true) : ∃ a n cap, A = .slice a n cap ∧ v.c = n ∧ (0 < n → ∃ p, ρ v.a = some p ∧ a = some ⟨p.blk, p.base + v.b, none⟩) := by
  have h1 : 6 ≤ v.t ∧ v.t ≤ 8 := by
    unfold isS at h; rw [bs_ite] at h
    by_cases h2 : 6 ≤ v.t
    · rw [ble_t.2 h2] at h; exact ⟨h2, ble_t.1 h⟩
    · rw [ble_f.2 (by omega)] at h; cases h
  have h2 : v.t = 6 ∨ v.t = 7 ∨ v.t = 8 := by omega
  rcases h2 with h2 | h2 | h2
  · obtain ⟨p, A', cap, hp, ha, hc, hd, hA⟩ := hv.inv_sl h2
    refine ⟨_, _, _, ha, rfl, fun h0 => ⟨p, hp, ?_⟩⟩
    rcases hA with ⟨rfl, _⟩ | ⟨_, h3⟩
    · rfl
    · omega
  · obtain ⟨ha, hc, hd⟩ := hv.inv_nils h2
    exact ⟨_, _, _, ha, hc, fun h0 => by omega⟩
  · obtain ⟨p, A', hp, ha, hA⟩ := hv.inv_sx h2
    refine ⟨_, _, _, ha, rfl, fun h0 => ⟨p, hp, ?_⟩⟩
    rcases hA with rfl | h3
    · rfl
    · omega

theorem i64_of {v : V} {A : Value} (hv : VR ρ v A) (h : v.t = 16) : A = .int .i64 (.ofNat v.a) := hv.inv_int (k := .i64) h

theorem idx_of {z : V} {Z : Value} (hz : VR ρ z Z) (h : isIdx z = true) : ∃ kd, Z = .int kd (.ofNat z.a) := by
  unfold isIdx at h
  rw [bs_ite] at h
  by_cases h1 : Nat.ble 16 z.t = true
  · rw [if_pos h1] at h
    obtain ⟨k, n, hX, h2⟩ := hz.inv_any_int (ble_t.1 h1)
    have hk := ofK_even k
    rcases h2 with ⟨_, rfl⟩ | ⟨h3, _⟩
    · exact ⟨k, hX⟩
    · have : z.t % 2 = 0 := beq_t.1 h
      omega
  · rw [if_neg h1] at h; cases h
theorem iaddrL_ok {el : TypeId} (ho : o.op = .indexAddr t X Y) (h1 : P.underlying t = some (.slice el)) (h2 : P.cellsOf el ≠ 0)
    (hR : Rel lc ρ s w) (hx : Opd ρ (x e) (ev X)) (hy : Opd ρ (y e) (ev Y)) (h : oIaddrL (P.cellsOf el) x y call e s k = some q) : Does P lc ρ s w (execOp ev o) k q := by
  obtain ⟨v, h, hv⟩ := hx _ _ h
  obtain ⟨z, h, hz⟩ := hy _ _ h
  obtain ⟨h3, h⟩ := chk_some.1 h
  obtain ⟨h4, h⟩ := chk_some.1 h
  obtain ⟨h5, h⟩ := chk_some.1 h
  rw [fN_eq] at h
  obtain ⟨a, n, cap, ha, hn, hpp⟩ := isS_some hv h3
  have h5' : z.a + 1 ≤ v.c := ble_t.1 h5
  obtain ⟨p, hp, rfl⟩ := hpp (by omega)
  obtain ⟨i, hi⟩ := info_of_cells h2
  obtain ⟨kd, hY⟩ := idx_of hz h4
  refine .same (rv := .pointer (some ⟨p.blk, p.base + v.b + z.a * P.cellsOf el, none⟩)) hR h ?_ (by have := VR.ptr (b := v.b + z.a * P.cellsOf el) hp; rw [← Nat.add_assoc] at this; exact this)
  unfold execOp; rw [ho]; dsimp only; rw [ha, hY]
  refine vrun ?_
  simp only [Instr.indexAt, Sem.run_bind, asIntOf, Sem.run_pure, run_underlying h1, Result.andThen_ok, run_sizeOf hi]
  rw [if_pos (by constructor <;> simp <;> omega)]
  simp only [Sem.run_bind, run_sizeOf hi, Result.andThen_ok, Sem.run_pure, addr_add]
  rfl
theorem iaddrA_ok {el : TypeId} {n : Nat} (ho : o.op = .indexAddr t X Y) (h1 : P.underlying t = some (.array n el)) (h2 : P.cellsOf el ≠ 0)
    (hR : Rel lc ρ s w) (hx : Opd ρ (x e) (ev X)) (hy : Opd ρ (y e) (ev Y)) (h : oIaddrA n (P.cellsOf el) x y call e s k = some q) : Does P lc ρ s w (execOp ev o) k q := by
  obtain ⟨v, h, hv⟩ := hx _ _ h
  obtain ⟨z, h, hz⟩ := hy _ _ h
  obtain ⟨h3, h⟩ := chk_some.1 h
  obtain ⟨h4, h⟩ := chk_some.1 h
  obtain ⟨h5, h⟩ := chk_some.1 h
  rw [fN_eq] at h
  obtain ⟨p, hp, ha⟩ := hv.inv_ptr (beq_t.1 h3)
  obtain ⟨kd, hY⟩ := idx_of hz h4
  have h5' : z.a + 1 ≤ n := ble_t.1 h5
  obtain ⟨i, hi⟩ := info_of_cells h2
  refine .same (rv := .pointer (some ⟨p.blk, p.base + v.b + z.a * P.cellsOf el, none⟩)) hR h ?_ (by have := VR.ptr (b := v.b + z.a * P.cellsOf el) hp; rw [← Nat.add_assoc] at this; exact this)
  unfold execOp; rw [ho]; dsimp only; rw [ha, hY]
  refine vrun ?_
  simp only [Instr.indexAt, Sem.run_bind, asIntOf, Sem.run_pure, run_underlying h1, Result.andThen_ok, run_sizeOf hi, Instr.sureAddr]
  rw [if_pos (by constructor <;> simp <;> omega)]
  simp only [Sem.run_bind, run_sizeOf hi, Result.andThen_ok, Sem.run_pure, addr_add]
  rfl
theorem indexS_ok (ho : o.op = .index t X Y) (h1 : P.underlying t = some .string)
    (hR : Rel lc ρ s w) (hx : Opd ρ (x e) (ev X)) (hy : Opd ρ (y e) (ev Y)) (h : oIndexS x y call e s k = some q) : Does P lc ρ s w (execOp ev o) k q := by
  obtain ⟨v, h, hv⟩ := hx _ _ h
  obtain ⟨z, h, hz⟩ := hy _ _ h
  obtain ⟨h3, h⟩ := chk_some.1 h
  obtain ⟨h4, h⟩ := chk_some.1 h
  rw [nth_eq] at h
  obtain ⟨c, hc, h⟩ := bind_some.1 h
  obtain ⟨b, ha, hb⟩ := hv.inv_str (beq_t.1 h3)
  obtain ⟨kd, hY⟩ := idx_of hz h4
  rw [hb] at hc
  simp only [List.getElem?_map, Option.map_eq_some_iff] at hc
  obtain ⟨c', hc', rfl⟩ := hc
  refine .same (rv := .int .u8 (.ofNat c'.toNat)) hR h ?_ (.int .u8 _)
  unfold execOp; rw [ho]; dsimp only; rw [ha, hY]
  refine vrun ?_
  have e1 : (if (0 : Int) ≤ Int.ofNat z.a then b[(Int.ofNat z.a).toNat]? else none) = some c' := by
    rw [if_pos (by simp)]
    have : b.data[z.a]? = some c' := by rw [← Array.getElem?_toList]; exact hc'
    cases b with
    | mk d =>
      have hlt : z.a < d.size := by
        rcases Nat.lt_or_ge z.a d.size with h | h
        · exact h
        · simp [Array.getElem?_eq_none h] at this
      show (if h : z.a < d.size then some (ByteArray.mk d)[z.a] else none) = _
      rw [dif_pos hlt]
      rw [Array.getElem?_eq_getElem hlt] at this
      exact this
  simp only [Instr.index, Sem.run_bind, asIntOf, Sem.run_pure, run_underlying h1, Result.andThen_ok]
  rw [e1]; rfl
theorem indexA_ok {el : TypeId} {n : Nat} {g : Bool} (ho : o.op = .index t X Y) (h1 : P.underlying t = some (.array n el)) (h2 : isAggT P el = some g) (h2' : g = false → P.cellsOf el = 1)
    (hR : Rel lc ρ s w) (hx : Opd ρ (x e) (ev X)) (hy : Opd ρ (y e) (ev Y)) (h : oIndexA n (P.cellsOf el) g x y call e s k = some q) : Does P lc ρ s w (execOp ev o) k q := by
  obtain ⟨v, h, hv⟩ := hx _ _ h
  obtain ⟨z, h, hz⟩ := hy _ _ h
  obtain ⟨h3, h⟩ := chk_some.1 h
  obtain ⟨h4, h⟩ := chk_some.1 h
  obtain ⟨h5, h⟩ := chk_some.1 h
  obtain ⟨h6, h⟩ := chk_some.1 h
  rw [normK_eq] at h
  obtain ⟨l', hl, hat, ha⟩ := hv.inv_agg (beq_t.1 h3)
  obtain ⟨kd, hY⟩ := idx_of hz h4
  have h5' : z.a + 1 ≤ n := ble_t.1 h5
  have h6' : z.a * P.cellsOf el + P.cellsOf el ≤ v.l.length := ble_t.1 h6
  obtain ⟨i, hi⟩ := isAgg_info h2
  obtain ⟨r, R, hk, hr, hc⟩ := aggOr_some ((hl.drop (z.a * P.cellsOf el)).take (P.cellsOf el)) (fun z hz => hat z (List.mem_of_mem_drop (List.mem_of_mem_take hz))) h
  refine .same hR hk ?_ hr
  unfold execOp; rw [ho]; dsimp only; rw [ha, hY]
  refine vrun ?_
  have e1 : (bif g then P.cellsOf el else 1) = P.cellsOf el := by cases g; · exact (h2' rfl).symm
                                                                  · rfl
  simp only [Instr.index, Sem.run_bind, asIntOf, Sem.run_pure, run_underlying h1, Result.andThen_ok, run_sizeOf hi]
  rw [if_pos (by constructor <;> simp <;> omega)]
  simp only [Sem.run_bind, run_sizeOf hi, Result.andThen_ok]
  exact run_part h2 (by rw [e1]; rfl) (by rw [e1, ← hl.length]; exact h6') hc
end
end Go.Lm
