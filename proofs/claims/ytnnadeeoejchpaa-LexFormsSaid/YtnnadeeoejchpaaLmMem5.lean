/- append, in the evaluator. -/
import Derived.Test.YtnnadeeoejchpaaLmMem4
set_option linter.all false
namespace Go.Lm
section
variable {P : Program} {lc : Lc}
variable {ρ : Rho} {s : St} {w : World} {k : K} {q : V × St} {call : Caller} {e : Env}
variable {t u : TypeId} {X Y : Operand} {ev : Operand → Value} {o : Oper} {x y : Od}

theorem Arg.string {z : Value} {size : Nat} {b : ByteArray} (hu : P.underlying u = some .string) : Arg P w u z size b.size (.string b) (b.data.toList.map fun c => Value.int .u8 c.toNat) where
  room := fun t ty e i ht hi hs hz base' sLen sCap hr hb hb2 => by
    subst hs
    have hx : (Array.map (fun b : UInt8 => Value.int IntKind.u8 (b.toNat : Int)) b.data).extract 0 b.size = Array.map (fun b : UInt8 => Value.int IntKind.u8 (b.toNat : Int)) b.data := by
      have hs : b.size = (Array.map (fun b : UInt8 => Value.int IntKind.u8 (b.toNat : Int)) b.data).size := by rw [Array.size_map]; rfl
      rw [hs, Array.extract_size]
    cases base' <;> simp [Builtin.append_, run_underlying ht, run_underlying hu, sizeOf, typeInfo, hi, Builtin.lenOf, hr, Builtin.firstCells, hx]
  grow := fun t ty e i ht hi hs hz base' sLen sCap olds hg hb hb2 hold => by
    subst hs
    have hn : ¬ (sLen + b.size ≤ sCap) := by omega
    have h63' : ¬ (9223372036854775807 < ((sLen : Int) + (b.size : Int))) := by omega
    have h48' : ¬ (281474976710656 < Builtin.nextslicecap (sLen + b.size) sCap * i.bytes) := by have := growslice_fits hg (bytes := i.bytes) (by omega); omega
    have hx : (Array.map (fun b : UInt8 => Value.int IntKind.u8 (b.toNat : Int)) b.data).extract 0 b.size = Array.map (fun b : UInt8 => Value.int IntKind.u8 (b.toNat : Int)) b.data := by
      have hs : b.size = (Array.map (fun b : UInt8 => Value.int IntKind.u8 (b.toNat : Int)) b.data).size := by rw [Array.size_map]; rfl
      rw [hs, Array.extract_size]
    have hy : (List.map (fun c : UInt8 => Value.int IntKind.u8 (c.toNat : Int)) b.data.toList).toArray = Array.map (fun b : UInt8 => Value.int IntKind.u8 (b.toNat : Int)) b.data := by
      rw [← Array.toList_map]
    have hf : (Builtin.firstCells i.size b.size (.string b)).run P w.drew = .ok (Array.map (fun b : UInt8 => Value.int IntKind.u8 (b.toNat : Int)) b.data) w.drew := by
      simp [Builtin.firstCells]
    rw [hy]
    simp [Builtin.append_, run_underlying ht, run_underlying hu, sizeOf, typeInfo, zeroValue, hi, hz, Builtin.lenOf, hn, h63', h48', Question.forced, hold, hf, newRow, grownCap]

theorem Arg.zeros {z : Value} {kd : IntKind} {size n : Nat} (hu : P.underlying u = some (.int kd)) (hzs : z.cells.size = size) : Arg P w u z size n (.int .i64 (n : Int)) (Builtin.zeroCells z.cells n).toList where
  room := fun t ty e i ht hi hs hz base' sLen sCap hr hb hb2 => by
    subst hs
    have wl : IntKind.i64.wrap (n : Int) = n := by rw [IntKind.wrap_i64]; omega
    have n2 : ¬ ((n : Int) < 0) := by omega
    have n3 : ¬ (281474976710656 < (n : Int) * (i.bytes : Int)) := by rw [Int.mul_comm]; have : ((i.bytes * n : Nat) : Int) ≤ ((2 ^ 40 : Nat) : Int) := by exact_mod_cast hb
                                                                      simp at this; omega
    by_cases hn : n * i.size = 0
    · have he : Builtin.zeroCells z.cells n = #[] := by unfold Builtin.zeroCells; rw [hzs, hn]; simp
      cases base' <;> simp [Builtin.append_, run_underlying ht, run_underlying hu, sizeOf, typeInfo, hi, asInt, asIntOf, wl, n2, n3, hr, hn, he]
    · cases base' <;> simp [Builtin.append_, run_underlying ht, run_underlying hu, sizeOf, typeInfo, hi, asInt, asIntOf, wl, n2, n3, hr, hn, zeroValue, hz]
  grow := fun t ty e i ht hi hs hz base' sLen sCap olds hg hb hb2 hold => by
    subst hs
    have wl : IntKind.i64.wrap (n : Int) = n := by rw [IntKind.wrap_i64]; omega
    have n2 : ¬ ((n : Int) < 0) := by omega
    have n3 : ¬ (281474976710656 < (n : Int) * (i.bytes : Int)) := by
      have h1 : n * i.bytes ≤ (sLen + n) * i.bytes := Nat.mul_le_mul_right _ (by omega)
      have : ((n * i.bytes : Nat) : Int) ≤ ((2 ^ 40 : Nat) : Int) := by exact_mod_cast Nat.le_trans h1 hb
      simp at this; omega
    have hn' : ¬ (sLen + n ≤ sCap) := by omega
    have h63' : ¬ (9223372036854775807 < ((sLen : Int) + (n : Int))) := by omega
    have h48' : ¬ (281474976710656 < Builtin.nextslicecap (sLen + n) sCap * i.bytes) := by have := growslice_fits hg (bytes := i.bytes) (by omega); omega
    by_cases hn : n * i.size = 0
    · have he : Builtin.zeroCells z.cells n = #[] := by unfold Builtin.zeroCells; rw [hzs, hn]; simp
      simp [Builtin.append_, run_underlying ht, run_underlying hu, sizeOf, typeInfo, zeroValue, hi, hz, asInt, asIntOf, wl, n2, n3, hn', h63', h48', Question.forced, hold, hn, he, newRow, grownCap]
    · simp [Builtin.append_, run_underlying ht, run_underlying hu, sizeOf, typeInfo, zeroValue, hi, hz, asInt, asIntOf, wl, n2, n3, hn', h63', h48', Question.forced, hold, hn, newRow, grownCap]

theorem Goes.put_le {w' : World} {s' : St} {p : Pl} (h : Goes lc ρ s w (ρ.put s.n p) s' w') : ρ.le (ρ.put s.n p) := h.le

/-- the row that grows into a new block -/
theorem grow_goes {el : TypeId} {esz len cap n : Nat} {cells : List V} {olds news : List Value} {z : Value} {s0 : St} (hn0 : s0.n = s.n) (hR : Rel lc ρ s0 w) (hl : VRL ρ cells (olds ++ news)) (hat : ∀ v ∈ olds ++ news, atom v)
    (ho : olds.length = len * esz) (hnl : news.length = n * esz) (hz : z.cells.size = esz) (h : newB s0 cells esz (fun a s => fN (len + n) fun len => k (vSl a 0 len len) s) = some q) :
    ∃ v s' ρ', k v s' = some q ∧ Goes lc ρ s0 w ρ' s' (w.drew.alloc (.cells (olds.toArray ++ news.toArray ++ Builtin.zeroCells z.cells (grownCap w (len + n) cap el - (len + n))) el)) ∧
      VR ρ' v (.slice (some ⟨w.heap.size, 0, none⟩) (len + n) (grownCap w (len + n) cap el)) := by
  have hD := (Goes.drawn hR (w.drawn + 1)).rel
  obtain ⟨s', p, h, hg, hp⟩ := newB_some (ty := el) hD hl hat (Builtin.zeroCells z.cells (grownCap w (len + n) cap el - (len + n))).toList h
  rw [fN_eq] at h
  have hge := grownCap_ge w (len + n) cap el
  refine ⟨_, s', ρ.put s0.n p, h, ?_, ?_⟩
  · have := (Goes.drawn hR (w.drawn + 1)).trans hg
    have e1 : (⟨olds ++ news ++ (Builtin.zeroCells z.cells (grownCap w (len + n) cap el - (len + n))).toList⟩ : Array Value) = olds.toArray ++ news.toArray ++ Builtin.zeroCells z.cells (grownCap w (len + n) cap el - (len + n)) := by
      apply Array.ext'; simp
    rw [e1] at this; exact this
  · have hroom : p.base + 0 + grownCap w (len + n) cap el * p.esz ≤ p.room := by
      rw [hp]; simp only [Array.length_toList, size_zeroCells, hz, List.length_append, ho, hnl, Nat.zero_add]
      rw [← Nat.add_mul, ← Nat.add_mul]; rw [show len + n + (grownCap w (len + n) cap el - (len + n)) = grownCap w (len + n) cap el by omega]; exact Nat.le_refl _
    have := VR.sl (ρ := ρ.put s0.n p) (a := s0.n) (b := 0) (c := len + n) (d := len + n) (cap := grownCap w (len + n) cap el) (p := p) (Rho.put_self _ _ _) hge hge (fun _ _ => hroom)
    rw [hp] at this ⊢; exact this

theorem isS_cases {v : V} (h : isS v = true) : v.t = 6 ∨ v.t = 7 ∨ v.t = 8 := by
  unfold isS at h; rw [bs_ite] at h
  by_cases h1 : 6 ≤ v.t
  · rw [ble_t.2 h1] at h; have := ble_t.1 (show Nat.ble v.t 8 = true from h); omega
  · rw [ble_f.2 (by omega)] at h; cases h

theorem appendV_ok {ty el : TypeId} {i : TypeInfo} {z : Value} {n : Nat} {xv : V} {XV XA : Value} {new : List V} {new' : List Value} (h1 : P.underlying t = some (.slice el)) (hi : P.info? el = some i) (hz : i.zero = some z) (hzs : z.cells.size = i.size)
    (hA : Arg P w u z i.size n XA new') (hnew : VRL ρ new new') (hat : ∀ v ∈ new', atom v) (hlen : new.length = n * i.size) (hR : Rel lc ρ s w) (hv : VR ρ xv XV) (hS : isS xv = true) (h : appendV i.size i.bytes s xv n new k = some q) :
    ∃ v s' ρ' w' rv, k v s' = some q ∧ (Builtin.append_ #[t, u] ty #[XV, XA]).run P w = .ok rv w' ∧ Goes lc ρ s w ρ' s' w' ∧ VR ρ' v rv := by
  have hnl : new'.length = n * i.size := by rw [← hnew.length]; exact hlen
  unfold appendV at h
  rcases bs_some.1 h with ⟨h2, h⟩ | ⟨h2, h⟩
  · -- nothing is appended
    have h2 : n = 0 := beq_t.1 h2
    subst h2
    have hnil : new' = [] := List.length_eq_zero_iff.1 (by rw [hnl]; simp)
    have same : ∀ base c cap, XV = .slice base c cap → c ≤ cap → (Builtin.append_ #[t, u] ty #[XV, XA]).run P w = .ok XV w := fun base c cap hX hc => by
      rw [hX, hA.room t ty el i h1 hi rfl hz base c cap (by omega) (by simp) (by simp), hnil]
      cases base <;> simp [storeCells, Sem.run_bind, Sem.run_pure]
    rcases isS_cases hS with h3 | h3 | h3
    · obtain ⟨p, A, cap, hp, hX, hc, _⟩ := hv.inv_sl h3
      exact ⟨xv, s, ρ, w, XV, h, same _ _ _ hX hc, Goes.refl hR, hv⟩
    · obtain ⟨hX, _⟩ := hv.inv_nils h3
      exact ⟨xv, s, ρ, w, XV, h, same _ _ _ hX (by omega), Goes.refl hR, hv⟩
    · obtain ⟨p, A, hp, hX, _⟩ := hv.inv_sx h3
      exact ⟨xv, s, ρ, w, XV, h, same _ _ _ hX (Nat.le_refl _), Goes.refl hR, hv⟩
  have h2 : n ≠ 0 := beq_f.1 h2
  obtain ⟨h3, h⟩ := chk_some.1 h
  have h3 : (xv.c + n) * (i.bytes + 1) ≤ 2 ^ 40 := ble_t.1 h3
  have hb1 : (xv.c + n) * i.bytes ≤ 2 ^ 40 := Nat.le_trans (Nat.mul_le_mul_left _ (by omega)) h3
  have hb2 : xv.c + n ≤ 2 ^ 40 := by rw [Nat.mul_succ] at h3; omega
  have hdrew : ∀ x, w.drew.cell? x = w.cell? x := fun x => rfl
  rcases bs_some.1 h with ⟨h4, h⟩ | ⟨h4, h⟩
  · -- nil
    obtain ⟨hX, hc, _⟩ := hv.inv_nils (beq_t.1 h4)
    have h : newB s new i.size (fun a s => fN (0 + n) fun len => k (vSl a 0 len len) s) = some q := by rw [Nat.zero_add]; exact h
    obtain ⟨v, s', ρ', hk, hg, hv'⟩ := grow_goes (el := el) (cap := 0) (olds := []) (news := new') (z := z) rfl hR (by simpa using hnew) (by simpa using hat) (by simp) hnl hzs h
    refine ⟨v, s', ρ', _, _, hk, ?_, hg, hv'⟩
    rw [hX, hA.grow t ty el i h1 hi rfl hz none 0 0 #[] (by omega) (by rw [hc] at hb1; exact hb1) (by omega) (by simp [Builtin.firstCells])]
  rcases bs_some.1 h with ⟨h5, h⟩ | ⟨h5, h⟩
  · -- a row that is full
    obtain ⟨p, A, hp, hX, hcase⟩ := hv.inv_sx (beq_t.1 h5)
    obtain ⟨l, h, ht, hl, hg⟩ := loadL_some h
    obtain ⟨l', r1, r2, r3⟩ := cells_val hR hp ht hl hg
    have hl' : l'.length = xv.c * i.size := by rw [← r1.length]; exact hl
    obtain ⟨v, s', ρ', hk, hg, hv'⟩ := grow_goes (el := el) (cap := xv.c) (olds := l') (news := new') (z := z) rfl hR (r1.append hnew) (fun v hv => by rcases List.mem_append.1 hv with a | a; exact r2 v a; exact hat v a) hl' hnl hzs h
    refine ⟨v, s', ρ', _, _, hk, ?_, hg, hv'⟩
    rw [hX, hA.grow t ty el i h1 hi rfl hz (some A) xv.c xv.c l'.toArray (by omega) hb1 hb2 ?_]
    simp only [Builtin.firstCells]
    rcases hcase with rfl | hc0
    · exact run_loadCells hl' r3
    · have : l' = [] := List.length_eq_zero_iff.1 (by rw [hl', hc0]; simp)
      rw [this, hc0, Nat.zero_mul]; rfl
  -- a row of its own
  have h6 : xv.t = 6 := by have := beq_f.1 h4; have := beq_f.1 h5; rcases isS_cases hS with h | h | h <;> omega
  obtain ⟨p, A, cap, hp, hX, hc, hd, hcase⟩ := hv.inv_sl h6
  have hlive : (s.at xv.a).t ≠ 4 → Live s xv.a (s.at xv.a) := fun h => at_live rfl h
  have hcr : (s.at xv.a).t = 0 → Live s xv.a (s.at xv.a) ∧ CellR lc ρ (s.at xv.a) p w := fun ht => by
    have hl := hlive (by omega)
    obtain ⟨p', hp', hr⟩ := hR.cell _ _ hl
    rw [hp] at hp'; cases hp'; exact ⟨hl, hr⟩
  generalize hce : s.at xv.a = c0 at h hcr
  obtain ⟨tt, m, fl, ct, size, esz0, es, ps⟩ := c0
  have h : chk (Nat.beq tt 0) (chk (Nat.ble (xv.b + xv.c * i.size) size) (chk (Nat.beq esz0 i.size) (fN (xv.b + xv.c * i.size) fun o => fN (xv.c * i.size + new.length) fun sz => fN (xv.c + n) fun len =>
      growC m fl ct xv.b o sz i.size new fun c => s.h.setK xv.a deadC fun h => newK ⟨h, s.n⟩ c fun a s => k (vSl a 0 len len) s))) = some q := h
  obtain ⟨h7, g1⟩ := chk_some.1 h
  obtain ⟨h8, g2⟩ := chk_some.1 g1
  obtain ⟨h9, g3⟩ := chk_some.1 g2
  clear h g1 g2
  have h7' : tt = 0 := beq_t.1 h7
  have h8' := ble_t.1 h8
  have h9' : esz0 = i.size := beq_t.1 h9
  clear h7 h8 h9
  subst h7'; subst h9'
  rw [fN_eq, fN_eq, fN_eq] at g3
  obtain ⟨hl, hr⟩ := hcr rfl
  obtain ⟨hown, hesz, hwf, cs, cty, hcs, hroom, hfit, hval⟩ := hr.1 rfl
  have hesz : p.esz = i.size := hesz
  have hfit : p.base + size ≤ p.room := hfit
  obtain ⟨c', g4, c1, c2, c3, c4, c5⟩ := growC_some (esz0 := i.size) (es := es) (ps := ps) hwf h8' g3
  rw [setK_eq] at g4
  unfold newK at g4
  rw [setK_eq, fN_eq] at g4
  obtain ⟨L, hL⟩ : ∃ L, L = xv.c * i.size := ⟨_, rfl⟩
  rw [← hL] at h8' c2 c5
  have g4 : k (vSl s.n 0 (xv.c + n) (xv.c + n)) ⟨(s.h.set xv.a deadC).set s.n c', s.n + 1⟩ = some q := g4
  have hnone : ρ s.n = none := by
    cases e : ρ s.n with
    | none => rfl
    | some q => exact absurd (hR.scope _ _ e) (by omega)
  by_cases hcap : xv.c + n ≤ cap
  · have hA' : A = ⟨p.blk, p.base + xv.b, none⟩ ∧ (p.own = true → p.esz ≠ 0 → p.base + xv.b + cap * p.esz ≤ p.room) := by rcases hcase with h | h; exact h; omega
    obtain ⟨hA1, hA2⟩ := hA'
    have hA2 := hA2 hown
    rw [hesz] at hA2
    have hin : p.base + xv.b + L + new'.length ≤ p.room := by
      rw [hnl, hL, Nat.add_assoc, ← Nat.add_mul]
      by_cases e : i.size = 0
      · rw [e, Nat.mul_zero]; omega
      · exact Nat.le_trans (Nat.add_le_add_left (Nat.mul_le_mul_right _ hcap) _) (hA2 e)
    obtain ⟨w', hr', hst⟩ := run_storeCells (P := P) new' (p.base + xv.b + L) 0 w cs cty hcs hat (by omega)
    obtain ⟨cs', e1, e2, e3⟩ := hst.here
    refine ⟨_, _, ρ.put s.n ⟨p.blk, p.base + xv.b, true, i.size, p.room⟩, w', _, g4, ?_, hR.move hl hp hown rfl rfl hst.size hst.others hst.os hst.tape hst.output
      (.own0 c1 ⟨rfl, c3.symm, c4, cs', cty, e1, by rw [e2]; exact hroom, by rw [c2, hlen, ← hnl]; exact (by omega : p.base + xv.b + (L + new'.length) ≤ p.room), fun j v hj => ?_⟩),
      VR.sl (cap := cap) (Rho.put_self _ _ _) hcap hcap (fun _ he => by simpa using hA2 he)⟩
    · rw [hX, hA.room t ty el i h1 hi rfl hz (some A) xv.c cap hcap (by rw [Nat.mul_comm]; exact Nat.le_trans (Nat.mul_le_mul_right _ (by omega)) hb1) (by omega), hA1]
      simp only [Sem.run_bind, addr_add, ← hL, hr', Result.andThen_ok, Sem.run_pure, Nat.add_zero]
    · show ∃ r, cs'[p.base + xv.b + j]? = some r ∧ _
      rw [e3]
      have hle := Rho.le_put ⟨p.blk, p.base + xv.b, true, i.size, p.room⟩ hnone
      rcases c5 j v hj with ⟨k1, k2⟩ | ⟨k1, k2⟩
      · obtain ⟨r, r1, r2, r3⟩ := hval _ _ k2
        refine ⟨r, ?_, r2.mono hle, r3⟩
        rw [if_neg (by omega), ← r1, Nat.add_assoc]
      · obtain ⟨r, r1, r2⟩ := hnew.get _ _ k2
        have hlt : j - L < new'.length := by
          rcases Nat.lt_or_ge (j - L) new'.length with h | h
          · exact h
          · rw [List.getElem?_eq_none h] at r1; cases r1
        refine ⟨r, ?_, r2.mono hle, hat r (List.mem_of_getElem? r1)⟩
        rw [if_pos (by omega), ← r1]; congr 1; omega
  · have hcl : ((cs.toList.drop (p.base + xv.b)).take L).length = L := by rw [List.length_take, List.length_drop, Array.length_toList, hroom]; omega
    have hcg : ∀ j, j < L → ((cs.toList.drop (p.base + xv.b)).take L)[j]? = cs[p.base + xv.b + j]? := fun j hj => by
      rw [List.getElem?_take, if_pos hj, List.getElem?_drop, Array.getElem?_toList]
    generalize (cs.toList.drop (p.base + xv.b)).take L = olds at hcl hcg
    have hge := grownCap_ge w (xv.c + n) cap el
    have hkill := hR.kill xv.a (hR.scope _ _ hp)
    have hD := (hkill.trans (Goes.drawn hkill.rel (w.drawn + 1)))
    generalize hrest : Builtin.zeroCells z.cells (grownCap w (xv.c + n) cap el - (xv.c + n)) = rest
    have hrl : rest.size = (grownCap w (xv.c + n) cap el - (xv.c + n)) * i.size := by rw [← hrest, size_zeroCells, hzs]
    have hroom2 : L + new'.length + rest.size = grownCap w (xv.c + n) cap el * i.size := by
      rw [hL, hnl, hrl, ← Nat.add_mul, ← Nat.add_mul]; congr 1; omega
    have hg := hD.rel.alloc (c := c') (p := ⟨w.heap.size, 0, true, i.size, L + new'.length + rest.size⟩) (o := .cells (olds.toArray ++ new'.toArray ++ rest) el) rfl rfl
      (.own0 c1 ⟨rfl, c3.symm, c4, olds.toArray ++ new'.toArray ++ rest, el, by rw [heap_alloc]; simp, by simp [hcl], by rw [c2, hlen, ← hnl]; simp only []; omega, fun j v hj => by
        have hle := Rho.le_put ⟨w.heap.size, 0, true, i.size, L + new'.length + rest.size⟩ hnone
        show ∃ r, (olds.toArray ++ new'.toArray ++ rest)[0 + j]? = some r ∧ _
        rw [Nat.zero_add]
        rcases c5 j v hj with ⟨k1, k2⟩ | ⟨k1, k2⟩
        · obtain ⟨r, r1, r2, r3⟩ := hval _ _ k2
          refine ⟨r, ?_, r2.mono hle, r3⟩
          rw [Array.append_assoc, Array.getElem?_append_left (by simpa [hcl] using k1), List.getElem?_toArray, hcg j k1, ← r1]; congr 1; omega
        · obtain ⟨r, r1, r2⟩ := hnew.get _ _ k2
          have hlt : j - L < new'.length := by
            rcases Nat.lt_or_ge (j - L) new'.length with h | h
            · exact h
            · rw [List.getElem?_eq_none h] at r1; cases r1
          refine ⟨r, ?_, r2.mono hle, hat r (List.mem_of_getElem? r1)⟩
          rw [Array.getElem?_append_left (by simp [hcl]; omega), Array.getElem?_append_right (by simp [hcl]; omega)]
          simp only [List.size_toArray, hcl, List.getElem?_toArray]; exact r1⟩)
    refine ⟨_, _, _, _, _, g4, ?_, hD.trans hg, VR.sl (cap := grownCap w (xv.c + n) cap el) (Rho.put_self _ _ _) hge hge (fun _ _ => by simp only [Nat.zero_add]; omega)⟩
    rw [hX, hA.grow t ty el i h1 hi rfl hz (some A) xv.c cap olds.toArray (by omega) hb1 hb2 ?_, hrest]
    · rfl
    · simp only [Builtin.firstCells, ← hL]
      rcases hcase with ⟨rfl, _⟩ | ⟨_, hc0⟩
      · refine run_loadCells hcl fun j v hj => ?_
        have hlt : j < L := by
          rcases Nat.lt_or_ge j L with h | h
          · exact h
          · rw [List.getElem?_eq_none (by omega)] at hj; cases hj
        rw [hcg j hlt] at hj
        show World.cell? w _ = _
        simp [World.cell?, hcs, hj]
      · have hL0 : L = 0 := by rw [hL, hc0, Nat.zero_mul]
        have : olds = [] := List.length_eq_zero_iff.1 (by rw [hcl, hL0])
        rw [this, hL0]; rfl
end
end Go.Lm
