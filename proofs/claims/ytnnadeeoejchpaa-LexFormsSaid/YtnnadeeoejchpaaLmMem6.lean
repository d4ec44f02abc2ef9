/- append, made slices, texts of bytes: the operations. -/
import Derived.Test.YtnnadeeoejchpaaLmMem5
import Derived.Laws.BytesString
set_option linter.all false
namespace Go.Lm
section
variable {P : Program} {lc : Lc}
variable {ρ : Rho} {s : St} {w : World} {k : K} {q : V × St} {call : Caller} {e : Env}
variable {t u : TypeId} {X Y : Operand} {ev : Operand → Value} {o : Oper} {x y : Od} {c : Call}

theorem arr_two {α : Type} {a : Array α} {x y : α} (h : a.size = 2) (h0 : a[0]? = some x) (h1 : a[1]? = some y) : a = #[x, y] := by
  have hl : a.toList.length = 2 := by simpa using h
  match hx : a.toList, hl with
  | [p, q], _ =>
    have e0 : a.toList[0]? = some x := by simpa using h0
    have e1 : a.toList[1]? = some y := by simpa using h1
    rw [hx] at e0 e1; simp at e0 e1; subst e0; subst e1
    apply Array.ext'; rw [hx]

theorem app_does {XV XA rv : Value} {w' : World} {s' : St} {ρ' : Rho} {v : V} (ho : o.op = .call c) (hc : c.callee = .builtin .append) (hT : c.argTypes = #[t, u]) (ha : c.args = #[X, Y])
    (hk : k v s' = some q) (hrun : (Builtin.append_ #[t, u] o.type #[ev X, ev Y]).run P w = .ok rv w') (hg : Goes lc ρ s w ρ' s' w') (hv : VR ρ' v rv) : Does P lc ρ s w (execOp ev o) k q := by
  obtain ⟨cs, hr⟩ := exec_builtin (P := P) (w := w) (ev := ev) ho hc
  refine ⟨v, s', ρ', w', rv, hk, .inl ?_, hg, hv⟩
  rw [hr, hT, ha]
  refine vrun ?_
  simpa using hrun

theorem append_ok {el el' : TypeId} {i : TypeInfo} {z : List V} (ho : o.op = .call c) (hc : c.callee = .builtin .append) (hT : c.argTypes = #[t, u]) (ha : c.args = #[X, Y])
    (h1 : P.underlying t = some (.slice el)) (h2 : P.underlying u = some (.slice el')) (hi : P.info? el = some i) (hz : zeroOf P el = some z)
    (hR : Rel lc ρ s w) (hx : Opd ρ (x e) (ev X)) (hy : Opd ρ (y e) (ev Y)) (h : oAppend i.size i.bytes x y call e s k = some q) : Does P lc ρ s w (execOp ev o) k q := by
  obtain ⟨i', zv, hi', hzv, hzl, hzat, hzlen⟩ := zeroOf_ok (ρ := ρ) hz
  rw [hi] at hi'; cases hi'
  have hzs : zv.cells.size = i.size := by have := hzl.length; rw [hzlen] at this; rw [show P.cellsOf el = i.size by simp [Program.cellsOf, hi]] at this; exact this.symm
  obtain ⟨xv, h, hxv⟩ := hx _ _ h
  obtain ⟨yv, h, hyv⟩ := hy _ _ h
  obtain ⟨h3, h⟩ := chk_some.1 h
  have fin : ∀ {n : Nat} {new : List V} {new' : List Value}, Arg P w u zv i.size n (ev Y) new' → VRL ρ new new' → (∀ v ∈ new', atom v) → new.length = n * i.size → appendV i.size i.bytes s xv n new k = some q → Does P lc ρ s w (execOp ev o) k q := fun hA hn hat hl h => by
    obtain ⟨v, s', ρ', w', rv, r1, r2, r3, r4⟩ := appendV_ok (ty := o.type) h1 hi hzv hzs hA hn hat hl hR hxv h3 h
    exact app_does (XV := ev X) (XA := ev Y) ho hc hT ha r1 r2 r3 r4
  rcases bs_some.1 h with ⟨h4, h⟩ | ⟨h4, h⟩
  · obtain ⟨hY, _⟩ := hyv.inv_nils (beq_t.1 h4)
    refine fin (n := 0) (new := []) (new' := []) ?_ .nil (by simp) (by simp) h
    rw [hY]; exact Arg.slice h2 fun w' _ => by simp [Builtin.firstCells]
  · obtain ⟨h5, h⟩ := chk_some.1 h
    have h4 := beq_f.1 h4
    obtain ⟨l, h, ht, hl, hg⟩ := loadL_some h
    have fin2 : ∀ (p : Pl) (A : Addr) (cap : Nat), ρ yv.a = some p → ev Y = .slice (some A) yv.c cap → (A = ⟨p.blk, p.base + yv.b, none⟩ ∨ yv.c = 0) → Does P lc ρ s w (execOp ev o) k q := fun p A cap hp hY hcase => by
      obtain ⟨l', r1, r2, r3⟩ := cells_val hR hp ht hl hg
      have hl' : l'.length = yv.c * i.size := by rw [← r1.length]; exact hl
      refine fin ?_ r1 r2 hl h
      rw [hY]
      refine Arg.slice h2 fun w' hw' => ?_
      simp only [Builtin.firstCells]
      rcases hcase with rfl | hc0
      · exact run_loadCells hl' fun j v hj => by rw [← r3 j v hj]; simp only [World.cell?, hw']
      · have : l' = [] := List.length_eq_zero_iff.1 (by rw [hl', hc0, Nat.zero_mul])
        rw [this, hc0, Nat.zero_mul]; rfl
    rcases isS_cases h5 with h6 | h6 | h6
    · obtain ⟨p, A, cap, hp, hY, _, _, hcase⟩ := hyv.inv_sl h6
      exact fin2 p A cap hp hY (by rcases hcase with ⟨h, _⟩ | ⟨_, h⟩; exact .inl h; exact .inr h)
    · exact absurd h6 h4
    · obtain ⟨p, A, hp, hY, hcase⟩ := hyv.inv_sx h6
      exact fin2 p A _ hp hY hcase

theorem appendS_ok {el : TypeId} {i : TypeInfo} {z : List V} (ho : o.op = .call c) (hc : c.callee = .builtin .append) (hT : c.argTypes = #[t, u]) (ha : c.args = #[X, Y])
    (h1 : P.underlying t = some (.slice el)) (h2 : P.underlying u = some .string) (hi : P.info? el = some i) (hz : zeroOf P el = some z) (hs1 : i.size = 1)
    (hR : Rel lc ρ s w) (hx : Opd ρ (x e) (ev X)) (hy : Opd ρ (y e) (ev Y)) (h : oAppendS i.bytes x y call e s k = some q) : Does P lc ρ s w (execOp ev o) k q := by
  obtain ⟨i', zv, hi', hzv, hzl, hzat, hzlen⟩ := zeroOf_ok (ρ := ρ) hz
  rw [hi] at hi'; cases hi'
  have hzs : zv.cells.size = i.size := by have := hzl.length; rw [hzlen] at this; rw [show P.cellsOf el = i.size by simp [Program.cellsOf, hi]] at this; exact this.symm
  obtain ⟨xv, h, hxv⟩ := hx _ _ h
  obtain ⟨yv, h, hyv⟩ := hy _ _ h
  obtain ⟨h3, h⟩ := chk_some.1 h
  obtain ⟨h4, h⟩ := chk_some.1 h
  obtain ⟨b, hY, hys⟩ := hyv.inv_str (beq_t.1 h4)
  have hlen : yv.s.length = b.size := by rw [hys]; simp
  have hnew : VRL ρ (bytesV yv.s) (b.data.toList.map fun c => Value.int .u8 c.toNat) := by
    have := VRL.map_same (ρ := ρ) yv.s
    rw [hys] at this ⊢
    rw [show (b.data.toList.map fun c => Value.int .u8 (c.toNat : Int)) = (b.data.toList.map (·.toNat)).map fun b => Value.int .u8 (Int.ofNat b) by rw [List.map_map]; rfl]; exact this
  have h : appendV i.size i.bytes s xv b.size (bytesV yv.s) k = some q := by rw [hs1, ← hlen]; exact h
  have hA : Arg P w u zv i.size b.size (ev Y) (b.data.toList.map fun c => Value.int .u8 c.toNat) := by rw [hY]; exact Arg.string h2
  obtain ⟨v, s', ρ', w', rv, r1, r2, r3, r4⟩ := appendV_ok (ty := o.type) h1 hi hzv hzs hA hnew (by simp [atom]) (by rw [hs1, Nat.mul_one, ← hlen]; simp [bytesV]) hR hxv h3 h
  exact app_does (XV := ev X) (XA := ev Y) ho hc hT ha r1 r2 r3 r4

theorem appendZ_ok {el : TypeId} {i : TypeInfo} {z : List V} {kd : IntKind} (ho : o.op = .call c) (hc : c.callee = .builtin .append) (hT : c.argTypes = #[t, u]) (ha : c.args = #[X, Y])
    (h1 : P.underlying t = some (.slice el)) (h2 : P.underlying u = some (.int kd)) (hi : P.info? el = some i) (hz : zeroOf P el = some z)
    (hR : Rel lc ρ s w) (hx : Opd ρ (x e) (ev X)) (hy : Opd ρ (y e) (ev Y)) (h : oAppendZ i.size i.bytes z x y call e s k = some q) : Does P lc ρ s w (execOp ev o) k q := by
  obtain ⟨i', zv, hi', hzv, hzl, hzat, hzlen⟩ := zeroOf_ok (ρ := ρ) hz
  rw [hi] at hi'; cases hi'
  have hco : P.cellsOf el = i.size := by simp [Program.cellsOf, hi]
  have hzs : zv.cells.size = i.size := by have := hzl.length; rw [hzlen, hco] at this; exact this.symm
  obtain ⟨xv, h, hxv⟩ := hx _ _ h
  obtain ⟨yv, h, hyv⟩ := hy _ _ h
  obtain ⟨h3, h⟩ := chk_some.1 h
  obtain ⟨h4, h⟩ := chk_some.1 h
  obtain ⟨h5, h⟩ := chk_some.1 h
  have hY := hyv.inv_int (k := .i64) (beq_t.1 h4)
  obtain ⟨m1, m2⟩ := rep_made hzl yv.a hzat
  have e1 : ((Array.range (yv.a * z.length)).map fun i => zv.cells[i % zv.cells.size]!) = Builtin.zeroCells zv.cells yv.a := by unfold Builtin.zeroCells; rw [hzlen, hco, hzs]
  rw [e1] at m1 m2
  have hA : Arg P w u zv i.size yv.a (ev Y) (Builtin.zeroCells zv.cells yv.a).toList := by rw [hY]; exact Arg.zeros h2 hzs
  obtain ⟨v, s', ρ', w', rv, r1, r2, r3, r4⟩ := appendV_ok (ty := o.type) h1 hi hzv hzs hA m1 m2 (by rw [rep_length, hzlen, hco]) hR hxv h3 h
  exact app_does (XV := ev X) (XA := ev Y) ho hc hT ha r1 r2 r3 r4

theorem mkslice_ok {el : TypeId} {i : TypeInfo} {z : List V} (ho : o.op = .makeSlice t X Y) (h1 : P.underlying t = some (.slice el)) (hi : P.info? el = some i) (hz : zeroOf P el = some z)
    (hR : Rel lc ρ s w) (hx : Opd ρ (x e) (ev X)) (hy : Opd ρ (y e) (ev Y)) (h : oMkslice i.size i.bytes z x y call e s k = some q) : Does P lc ρ s w (execOp ev o) k q := by
  obtain ⟨i', zv, hi', hzv, hzl, hzat, hzlen⟩ := zeroOf_ok (ρ := ρ) hz
  rw [hi] at hi'; cases hi'
  have hco : P.cellsOf el = i.size := by simp [Program.cellsOf, hi]
  obtain ⟨l, h, hl⟩ := hx _ _ h
  obtain ⟨c, h, hc⟩ := hy _ _ h
  obtain ⟨h2, h⟩ := chk_some.1 h
  obtain ⟨h3, h⟩ := chk_some.1 h
  obtain ⟨h4, h⟩ := chk_some.1 h
  obtain ⟨h5, h⟩ := chk_some.1 h
  have hX := hl.inv_int (k := .i64) (beq_t.1 h2)
  have hY := hc.inv_int (k := .i64) (beq_t.1 h3)
  have h4 := ble_t.1 h4
  have h5 : c.a * (i.bytes + 1) ≤ 2 ^ 40 := ble_t.1 h5
  have hb1 : c.a * i.bytes ≤ 2 ^ 40 := Nat.le_trans (Nat.mul_le_mul_left _ (by omega)) h5
  have hb2 : c.a ≤ 2 ^ 40 := by rw [Nat.mul_succ] at h5; omega
  obtain ⟨m1, m2⟩ := rep_made hzl c.a hzat
  rw [hzlen, hco] at m1 m2
  obtain ⟨s', p, h, hg, hp⟩ := newB_some (ty := el) hR m1 m2 [] h
  rw [List.append_nil] at hg
  have hbI : (i.bytes : Int) * (c.a : Int) ≤ 281474976710656 := by
    rw [Int.mul_comm]
    have : ((c.a * i.bytes : Nat) : Int) ≤ ((2 ^ 40 : Nat) : Int) := by exact_mod_cast hb1
    simp at this; omega
  have hrun := run_make (P := P) w t el i zv h1 hi hzv .i64 .i64 (l.a : Int) (c.a : Int) (by omega) (by omega) hbI (by omega)
  refine ⟨_, s', _, _, .slice (some ⟨w.heap.size, 0, none⟩) l.a c.a, h, .inl ?_, hg, ?_⟩
  · unfold execOp; rw [ho]; dsimp only; rw [hX, hY]
    exact vrun hrun
  · have hr : p.base + 0 + c.a * p.esz ≤ p.room := by rw [hp]; simp
    have := VR.sl (ρ := ρ.put s.n p) (a := s.n) (b := 0) (c := l.a) (d := c.a) (cap := c.a) (p := p) (Rho.put_self _ _ _) h4 (Nat.le_refl _) (fun _ _ => hr)
    rw [hp] at this ⊢; exact this
end
end Go.Lm
