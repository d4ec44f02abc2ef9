/- More operations that touch no memory. -/
import Derived.Test.YtnnadeeoejchpaaLmOps1
import Derived.Laws.Strings
set_option linter.all false
namespace Go.Lm
section
variable {P : Program} {lc : Lc}
variable {ρ : Rho} {s : St} {w : World} {k : K} {q : V × St} {call : Caller} {e : Env}
variable {t u : TypeId} {X Y : Operand} {ev : Operand → Value} {o : Oper} {x y : Od}

/-! strings -/
def tn (s : ByteArray) : List Nat := s.data.toList.map (·.toNat)
theorem tn_inj {a b : ByteArray} : tn a = tn b ↔ a.data.toList = b.data.toList := by
  unfold tn
  constructor
  · intro h; exact (List.map_inj_right (fun x y h => UInt8.toNat_inj.1 h)).1 h
  · intro h; rw [h]
theorem eqNs_str (a b : ByteArray) : eqNs (tn a) (tn b) = (a.toList == b.toList) := by
  rw [eqNs_iff, ByteArray.toList_eq, ByteArray.toList_eq]
  by_cases h : a.data.toList = b.data.toList
  · rw [h]; simp [tn_inj, h]
  · have : ¬ tn a = tn b := fun e => h (tn_inj.1 e)
    rw [decide_eq_false this, beq_eq_false_iff_ne.2 h]
theorem ltNs_bytes (l : List UInt8) : ∀ m, ltNs (l.map (·.toNat)) (m.map (·.toNat)) = Op.bytesLess l m := by
  induction l with
  | nil => intro m; cases m <;> rfl
  | cons a l ih => intro m; cases m with
    | nil => rfl
    | cons b m =>
      show bs (Nat.beq a.toNat b.toNat) (ltNs (l.map _) (m.map _)) (Nat.ble (a.toNat + 1) b.toNat) = (decide (a < b) || (a == b && Op.bytesLess l m))
      rw [ih]
      by_cases h : a = b
      · subst h; rw [beq_t.2 rfl]; simp
      · have h' : a.toNat ≠ b.toNat := fun e => h (UInt8.toNat_inj.1 e)
        rw [beq_f.2 h', bs_false]
        have h2 : (a == b) = false := by simpa using h
        rw [h2]
        by_cases h3 : a.toNat < b.toNat
        · rw [ble_t.2 h3]; have : a < b := UInt8.lt_iff_toNat_lt.2 h3; simp [this]
        · rw [ble_f.2 (by omega)]; have : ¬ a < b := fun e => h3 (UInt8.lt_iff_toNat_lt.1 e); simp [this]
theorem ltNs_str (a b : ByteArray) : ltNs (tn a) (tn b) = Op.bytesLess a.toList b.toList := by
  rw [ByteArray.toList_eq, ByteArray.toList_eq]; exact ltNs_bytes _ _

theorem bS_ok {f : List Nat → List Nat → Bool} {op : BinOp} {G : ByteArray → ByteArray → Bool} (ho : o.op = .binOp op t X Y u) (hG : ∀ a b, f (tn a) (tn b) = G a b)
    (hop : ∀ a b w, (binOp op t (.string a) (.string b)).run P w = .ok (.bool (G a b)) w)
    (hR : Rel lc ρ s w) (hx : Opd ρ (x e) (ev X)) (hy : Opd ρ (y e) (ev Y)) (h : bS f x y call e s k = some q) : Does P lc ρ s w (execOp ev o) k q := by
  obtain ⟨v, h, hv⟩ := hx _ _ h
  obtain ⟨u, h, hu⟩ := hy _ _ h
  obtain ⟨h1, h⟩ := chk_some.1 h
  obtain ⟨h2, h⟩ := chk_some.1 h
  obtain ⟨a, ha, hva⟩ := hv.inv_str (beq_t.1 h1)
  obtain ⟨b, hb, hvb⟩ := hu.inv_str (beq_t.1 h2)
  obtain ⟨r, hk, hr⟩ := vB_some (ρ := ρ) h
  rw [hva, hvb] at hr
  have e1 : f (tn a) (tn b) = G a b := hG a b
  unfold tn at e1; rw [e1] at hr
  exact .same hR hk (bin_run ho (by rw [ha]; simp) (by rw [ha]; simp) (by rw [ha, hb]; exact hop a b w)) hr

theorem eqs_ok (ho : o.op = .binOp .eql t X Y u) (hR : Rel lc ρ s w) (hx : Opd ρ (x e) (ev X)) (hy : Opd ρ (y e) (ev Y)) (h : oEqS x y call e s k = some q) : Does P lc ρ s w (execOp ev o) k q :=
  bS_ok (G := fun a b => a.toList == b.toList) ho (fun a b => eqNs_str a b) (fun a b w => rfl) hR hx hy h
theorem nes_ok (ho : o.op = .binOp .neq t X Y u) (hR : Rel lc ρ s w) (hx : Opd ρ (x e) (ev X)) (hy : Opd ρ (y e) (ev Y)) (h : oNeS x y call e s k = some q) : Does P lc ρ s w (execOp ev o) k q :=
  bS_ok (G := fun a b => !(a.toList == b.toList)) ho (fun a b => by rw [nB_not, eqNs_str]) (fun a b w => rfl) hR hx hy h
theorem lts_ok (ho : o.op = .binOp .lss t X Y u) (hR : Rel lc ρ s w) (hx : Opd ρ (x e) (ev X)) (hy : Opd ρ (y e) (ev Y)) (h : oLtS x y call e s k = some q) : Does P lc ρ s w (execOp ev o) k q :=
  bS_ok (G := fun a b => Op.bytesLess a.toList b.toList) ho (fun a b => ltNs_str a b) (fun a b w => rfl) hR hx hy h

theorem bytesLess_or (l : List UInt8) : ∀ m, (Op.bytesLess l m || (l == m)) = !Op.bytesLess m l := by
  induction l with
  | nil => intro m; cases m <;> rfl
  | cons a l ih => intro m; cases m with
    | nil => rfl
    | cons b m =>
      have := ih m
      show ((decide (a < b) || (a == b && Op.bytesLess l m)) || (a :: l == b :: m)) = !(decide (b < a) || (b == a && Op.bytesLess m l))
      by_cases h : a = b
      · subst h; simp; simpa using this
      · have h1 : (a == b) = false := by simpa using h
        have h2 : (b == a) = false := by simpa using Ne.symm h
        have h3 : (a :: l == b :: m) = false := by simp [h]
        rw [h1, h2, h3]
        have h' : a.toNat ≠ b.toNat := fun e => h (UInt8.toNat_inj.1 e)
        by_cases h4 : a < b
        · have : ¬ b < a := fun x => by have := UInt8.lt_iff_toNat_lt.1 h4; have := UInt8.lt_iff_toNat_lt.1 x; omega
          simp [h4, this]
        · have : b < a := UInt8.lt_iff_toNat_lt.2 (by have : ¬ a.toNat < b.toNat := fun x => h4 (UInt8.lt_iff_toNat_lt.2 x); omega)
          simp [h4, this]
theorem les_ok (ho : o.op = .binOp .leq t X Y u) (hR : Rel lc ρ s w) (hx : Opd ρ (x e) (ev X)) (hy : Opd ρ (y e) (ev Y)) (h : oLeS x y call e s k = some q) : Does P lc ρ s w (execOp ev o) k q :=
  bS_ok (G := fun a b => Op.bytesLess a.toList b.toList || a.toList == b.toList) ho (fun a b => by rw [nB_not, ltNs_str, bytesLess_or]) (fun a b w => rfl) hR hx hy h
theorem gts_ok (ho : o.op = .binOp .gtr t X Y u) (hR : Rel lc ρ s w) (hx : Opd ρ (x e) (ev X)) (hy : Opd ρ (y e) (ev Y)) (h : oGtS x y call e s k = some q) : Does P lc ρ s w (execOp ev o) k q :=
  bS_ok (G := fun a b => !(Op.bytesLess a.toList b.toList || a.toList == b.toList)) ho (fun a b => by rw [ltNs_str, bytesLess_or]; simp) (fun a b w => rfl) hR hx hy h
theorem ges_ok (ho : o.op = .binOp .geq t X Y u) (hR : Rel lc ρ s w) (hx : Opd ρ (x e) (ev X)) (hy : Opd ρ (y e) (ev Y)) (h : oGeS x y call e s k = some q) : Does P lc ρ s w (execOp ev o) k q :=
  bS_ok (G := fun a b => !Op.bytesLess a.toList b.toList) ho (fun a b => by rw [nB_not, ltNs_str]) (fun a b w => rfl) hR hx hy h

theorem size_len (a : ByteArray) : a.size = (tn a).length := by cases a; simp [tn, ByteArray.size]
theorem vr_str (a : ByteArray) : VR ρ (vStr (tn a)) (.string a) := .str a
theorem tn_append (a b : ByteArray) : tn (a ++ b) = tn a ++ tn b := by simp [tn, ByteArray.data_append]

theorem cat_ok (ho : o.op = .binOp .add t X Y u) (hR : Rel lc ρ s w) (hx : Opd ρ (x e) (ev X)) (hy : Opd ρ (y e) (ev Y)) (h : oCat x y call e s k = some q) : Does P lc ρ s w (execOp ev o) k q := by
  obtain ⟨v, h, hv⟩ := hx _ _ h
  obtain ⟨u, h, hu⟩ := hy _ _ h
  obtain ⟨h1, h⟩ := chk_some.1 h
  obtain ⟨h2, h⟩ := chk_some.1 h
  obtain ⟨h3, h⟩ := chk_some.1 h
  obtain ⟨a, ha, hva⟩ := hv.inv_str (beq_t.1 h1)
  obtain ⟨b, hb, hvb⟩ := hu.inv_str (beq_t.1 h2)
  rw [fS_eq] at h
  have hl := ble_t.1 h3
  have hl' : v.s.length + u.s.length ≤ lim := hl
  refine .same hR h (bin_run (R := .string (a ++ b)) ho (by rw [ha]; simp) (by rw [ha]; simp) ?_) ?_
  · rw [ha, hb]
    simp only [binOp, Op.stringOp]
    rw [if_neg]
    · rfl
    · have e1 := size_len a; have e2 := size_len b
      have e3 : v.s.length = (tn a).length := by rw [hva]; rfl
      have e4 : u.s.length = (tn b).length := by rw [hvb]; rfl
      have : IntKind.i64.max = 9223372036854775807 := rfl
      rw [this]; unfold lim at hl'; omega
  · have e1 : v.s ++ u.s = tn (a ++ b) := by rw [hva, hvb, tn_append]; rfl
    rw [e1]; exact .str _

/-! bools -/
theorem le1_bool {v : V} {A : Value} (hv : VR ρ v A) (h : v.t ≤ 1) : A = .bool (Nat.beq v.t 1) := by
  have : v.t = 0 ∨ v.t = 1 := by omega
  rcases this with h | h
  · rw [hv.inv_f h, h]; rfl
  · rw [hv.inv_t h, h]; rfl
theorem bB_ok {f : Bool → Bool} {op : BinOp} (ho : o.op = .binOp op t X Y u) (hu : P.underlying t = some .bool) (hop : ∀ a b w, (binOp op t (.bool a) (.bool b)).run P w = .ok (.bool (f (a == b))) w)
    (hR : Rel lc ρ s w) (hx : Opd ρ (x e) (ev X)) (hy : Opd ρ (y e) (ev Y)) (h : bB f x y call e s k = some q) : Does P lc ρ s w (execOp ev o) k q := by
  obtain ⟨v, h, hv⟩ := hx _ _ h
  obtain ⟨z, h, hz⟩ := hy _ _ h
  obtain ⟨h1, h⟩ := chk_some.1 h
  obtain ⟨h2, h⟩ := chk_some.1 h
  have ha := le1_bool hv (ble_t.1 h1)
  have hb := le1_bool hz (ble_t.1 h2)
  obtain ⟨r, hk, hr⟩ := vB_some (ρ := ρ) h
  have e1 : Nat.beq v.t z.t = (Nat.beq v.t 1 == Nat.beq z.t 1) := by
    have h1' := ble_t.1 h1; have h2' := ble_t.1 h2
    have c1 : v.t = 0 ∨ v.t = 1 := by omega
    have c2 : z.t = 0 ∨ z.t = 1 := by omega
    rcases c1 with c1 | c1 <;> rcases c2 with c2 | c2 <;> rw [c1, c2] <;> rfl
  rw [e1] at hr
  exact .same hR hk (bin_run ho (by rw [ha]; simp) (by rw [ha]; simp) (by rw [ha, hb]; exact hop _ _ w)) hr
theorem equal_bool {a b : Bool} (hu : P.underlying t = some .bool) (w : World) : (Op.equal t (.bool a) (.bool b)).run P w = .ok (a == b) w := by
  unfold Op.equal Op.maxDepth
  show (Op.equalIn (9999 + 1) t _ _).run P w = _
  rw [Op.equalIn]
  simp only [Sem.run_bind, run_underlying hu, Result.andThen_ok]; rfl
theorem eqb_ok (ho : o.op = .binOp .eql t X Y u) (hu : P.underlying t = some .bool) (hR : Rel lc ρ s w) (hx : Opd ρ (x e) (ev X)) (hy : Opd ρ (y e) (ev Y)) (h : oEqB x y call e s k = some q) : Does P lc ρ s w (execOp ev o) k q :=
  bB_ok ho hu (fun a b w => by simp only [binOp, Sem.run_bind, equal_bool hu, Result.andThen_ok]; rfl) hR hx hy h
theorem neb_ok (ho : o.op = .binOp .neq t X Y u) (hu : P.underlying t = some .bool) (hR : Rel lc ρ s w) (hx : Opd ρ (x e) (ev X)) (hy : Opd ρ (y e) (ev Y)) (h : oNeB x y call e s k = some q) : Does P lc ρ s w (execOp ev o) k q :=
  bB_ok (f := nB) ho hu (fun a b w => by simp only [binOp, Sem.run_bind, equal_bool hu, Result.andThen_ok]; rw [nB_not]; rfl) hR hx hy h

/-! one operand -/
theorem not_ok (ho : o.op = .unOp .not t X) (hR : Rel lc ρ s w) (hx : Opd ρ (x e) (ev X)) (h : oNot x call e s k = some q) : Does P lc ρ s w (execOp ev o) k q := by
  obtain ⟨v, h, hv⟩ := hx _ _ h
  rcases bool_some hv h with ⟨ha, h⟩ | ⟨ha, h⟩
  · exact .same hR h (by unfold execOp; rw [ho]; dsimp only; rw [ha]; exact vrun rfl) .f
  · exact .same hR h (by unfold execOp; rw [ho]; dsimp only; rw [ha]; exact vrun rfl) .t
theorem neg_ok {kd : IntKind} (ho : o.op = .unOp .neg t X) (hR : Rel lc ρ s w) (hx : Opd ρ (x e) (ev X)) (h : oNeg (ofK kd) x call e s k = some q) : Does P lc ρ s w (execOp ev o) k q := by
  obtain ⟨v, h, hv⟩ := hx _ _ h
  obtain ⟨a, ha, h⟩ := toI_some hv h
  obtain ⟨r, hk, hr⟩ := wrapI_some (ρ := ρ) h
  exact .same hR hk (by unfold execOp; rw [ho]; dsimp only; rw [ha]; exact vrun rfl) hr
theorem convI_ok {src dst : TypeId} {k1 k2 : IntKind} (ho : o.op = .convert src dst X) (h1 : P.underlying src = some (.int k1)) (h2 : P.underlying dst = some (.int k2))
    (hR : Rel lc ρ s w) (hx : Opd ρ (x e) (ev X)) (h : oConvI (ofK k1) (ofK k2) x call e s k = some q) : Does P lc ρ s w (execOp ev o) k q := by
  obtain ⟨v, h, hv⟩ := hx _ _ h
  have fin : ∀ (a : Int) (r : V), ev X = .int k1 a → k r s = some q → VR ρ r (.int k2 (k2.wrap a)) → Does P lc ρ s w (execOp ev o) k q := fun a r ha hk hr =>
    .same hR hk (by
      unfold execOp; rw [ho]; dsimp only; rw [ha]
      refine vrun ?_
      simp only [convert, Sem.run_bind, run_underlying h1, run_underlying h2, Result.andThen_ok]; rfl) hr
  have slow : (toI (ofK k1) v fun a => wrapI (ofK k2) a fun v => k v s) = some q → Does P lc ρ s w (execOp ev o) k q := fun h => by
    obtain ⟨a, ha, h⟩ := toI_some hv h
    obtain ⟨r, hk, hr⟩ := wrapI_some (ρ := ρ) h
    exact fin a r ha hk hr
  rcases bs_some.1 h with ⟨h3, h⟩ | ⟨_, h⟩
  · rcases bs_some.1 h with ⟨h4, h⟩ | ⟨_, h⟩
    · have ha := hv.inv_int (beq_t.1 h3)
      refine fin _ _ ha h ?_
      have h5 := ble_t.1 h4
      have h6 := maxK_ofK k2
      rw [wrap_in (by simp) (by simp only [Int.ofNat_eq_natCast]; omega)]
      exact .int k2 _
    · exact slow h
  · exact slow h
theorem convS_ok {src dst : TypeId} (ho : o.op = .convert src dst X) (h1 : P.underlying src = some .string) (h2 : P.underlying dst = some .string)
    (hR : Rel lc ρ s w) (hx : Opd ρ (x e) (ev X)) (h : oConvS x call e s k = some q) : Does P lc ρ s w (execOp ev o) k q := by
  obtain ⟨v, h, hv⟩ := hx _ _ h
  obtain ⟨h3, h⟩ := chk_some.1 h
  obtain ⟨a, ha, hva⟩ := hv.inv_str (beq_t.1 h3)
  refine .same (rv := ev X) hR h ?_ hv
  unfold execOp; rw [ho]; dsimp only; rw [ha]
  refine vrun ?_
  simp only [convert, Sem.run_bind, run_underlying h1, run_underlying h2, Result.andThen_ok]; rfl
theorem nilchk_ok (ho : o.op = .nilCheck X) (hR : Rel lc ρ s w) (hx : Opd ρ (x e) (ev X)) (h : oNilchk x call e s k = some q) : Does P lc ρ s w (execOp ev o) k q := by
  obtain ⟨v, h, hv⟩ := hx _ _ h
  obtain ⟨h3, h⟩ := chk_some.1 h
  obtain ⟨p, hp, ha⟩ := hv.inv_ptr (beq_t.1 h3)
  refine .same (rv := ev X) hR h ?_ hv
  unfold execOp; rw [ho]; dsimp only; rw [ha]; rfl
theorem extract_ok {i : Nat} (ho : o.op = .extract X i) (hR : Rel lc ρ s w) (hx : Opd ρ (x e) (ev X)) (h : oExtract x i call e s k = some q) : Does P lc ρ s w (execOp ev o) k q := by
  obtain ⟨v, h, hv⟩ := hx _ _ h
  obtain ⟨h3, h⟩ := chk_some.1 h
  obtain ⟨l, hl, ha⟩ := hv.inv_tup (beq_t.1 h3)
  rw [nthV_eq] at h
  obtain ⟨u, hu, h⟩ := bind_some.1 h
  obtain ⟨r, hr, hvr⟩ := hl.get i u hu
  refine .same hR h ?_ hvr
  unfold execOp; rw [ho]; dsimp only; rw [ha]
  refine vrun ?_
  simp only [Instr.extract]
  have : (({ toList := l } : Array Value)[i]? : Option Value) = some r := by simpa using hr
  rw [this]; rfl
theorem shr_ok {kd k' : IntKind} {n : Nat} (ho : o.op = .binOp .shr t X (.const (.int k' (.ofNat n))) u) (hev : ev (.const (.int k' (.ofNat n))) = .int k' (.ofNat n)) (hn : n ≤ kd.bits)
    (hR : Rel lc ρ s w) (hx : Opd ρ (x e) (ev X)) (h : oShr (ofK kd) n x call e s k = some q) : Does P lc ρ s w (execOp ev o) k q := by
  obtain ⟨v, h, hv⟩ := hx _ _ h
  obtain ⟨h3, h⟩ := chk_some.1 h
  rw [fN_eq] at h
  have ha := hv.inv_int (beq_t.1 h3)
  have e1 : Nat.shiftRight v.a n = v.a / 2 ^ n := Nat.shiftRight_eq_div_pow v.a n
  refine .same (rv := .int kd (.ofNat (v.a / 2 ^ n))) hR h (bin_run ho (by rw [ha]; simp) (by rw [ha]; simp) ?_) (by rw [e1]; exact .int kd _)
  rw [ha, hev]
  simp only [binOp, Op.shift]
  rw [if_neg (by simp)]
  have e2 : min (Int.toNat (Int.ofNat n)) kd.bits = n := by simp; omega
  rw [e2]
  have e3 : Int.fdiv (Int.ofNat v.a) (2 ^ n) = Int.ofNat (v.a / 2 ^ n) := by
    rw [Int.fdiv_eq_ediv_of_nonneg _ (Int.pow_nonneg (by decide))]
    simp
  rw [e3]; rfl
end
end Go.Lm
