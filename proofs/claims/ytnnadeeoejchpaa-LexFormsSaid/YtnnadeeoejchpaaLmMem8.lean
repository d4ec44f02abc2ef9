/- Maps that are written; texts of bytes. -/
import Derived.Test.YtnnadeeoejchpaaLmMem7
set_option linter.all false
namespace Go.Lm
open Go.MapKept (IsKey sameNow_of_keys run_getObj_map run_setObj_map run_checkKey run_findKey)
section
variable {P : Program} {lc : Lc}
variable {ρ : Rho} {s : St} {w : World} {k : K} {q : V × St} {call : Caller} {e : Env}
variable {t u : TypeId} {X Y Z : Operand} {ev : Operand → Value} {o : Oper} {x y z : Od} {c : Call}

theorem setKey_cons {key v : V} {p : V × V} {es : List (V × V)} {f : List (V × V) → Res} : setKey key v (p :: es) f = by3 (eqFlat key p.1) fun b => bs b (f ((p.1, v) :: es)) (setKey key v es fun r' => f (p :: r')) := rfl
theorem setKey_some {d : TypeDesc} {key v : V} {KV VV : Value} (hK : IsKey d KV) (hk : VR ρ key KV) (hv : VR ρ v VV) : ∀ {es : List (V × V)} {l : List MapEntry} {f : List (V × V) → Res} (i : Nat), ER ρ es l → setKey key v es f = some q →
    (∃ (j : Nat) (es' : List (V × V)) (e : MapEntry), f es' = some q ∧ Instr.findNow d KV l i = some (some (i + j, e.val)) ∧ l[j]? = some e ∧ e.key = KV ∧ ER ρ es' (l.modify j fun e => { e with key := KV, val := VV })) ∨
    (∃ es', f es' = some q ∧ Instr.findNow d KV l i = some none ∧ ∀ b, ER ρ es' (l ++ [{ key := KV, val := VV, born := b }]))
  | _, _, f, i, .nil, h => .inr ⟨_, h, rfl, fun b => .cons hk hv .nil⟩
  | _, _, f, i, @ER.cons _ kk vv e es l h1 h2 h3, h => by
    rw [setKey_cons] at h
    have hle : eqFlat key kk ≤ 1 := by rcases by3_some h with ⟨h, _⟩ | ⟨h, _⟩ <;> (have h : eqFlat key kk = _ := h; omega)
    obtain ⟨k1, k2⟩ := eqFlat_key hK hk h1 hle
    obtain ⟨r, hr, hiff⟩ := sameNow_of_keys hK k1
    rcases by3_some h with ⟨h4, h⟩ | ⟨h4, h⟩
    · have h4 : eqFlat key kk = 0 := h4
      have hf : r = false := by cases r; rfl; have := k2.2 (hiff.1 rfl); omega
      subst hf
      rcases setKey_some hK hk hv (i + 1) h3 h with ⟨j, es', e', g1, g2, g3, g4, g5⟩ | ⟨es', g1, g2, g3⟩
      · exact .inl ⟨j + 1, _, e', g1, by simp [Instr.findNow, hr, g2]; omega, by simpa using g3, g4, by simp only [List.modify_succ_cons]; exact .cons h1 h2 g5⟩
      · exact .inr ⟨_, g1, by simp [Instr.findNow, hr, g2], fun b => .cons h1 h2 (g3 b)⟩
    · have hEq := k2.1 h4
      have ht : r = true := hiff.2 hEq
      subst ht
      refine .inl ⟨0, _, e, h, by simp [Instr.findNow, hr], rfl, hEq.symm, ?_⟩
      simp only [List.modify_zero_cons]
      exact .cons (by rw [hEq]; exact h1) hv h3

theorem sameBits_key {d : TypeDesc} {K : Value} (h : IsKey d K) (n : Nat) : Instr.sameBits n K K = true := by
  have bb : ∀ a : ByteArray, (a == a) = true := fun a => by
    cases a with
    | mk x => show (x == x) = true; simp
  cases d <;> cases K <;> simp_all [IsKey] <;> cases n <;> simp [Instr.sameBits, bb]

theorem mapupd_ok {kt et : TypeId} {kc : Nat} {d : TypeDesc} (ho : o.op = .mapUpdate t X Y Z ∨ o.op = .insert t X Y Z) (h1 : P.underlying t = some (.map kt et)) (hd : P.underlying kt = some d) (hc : keyCode P kt = some kc)
    (hR : Rel lc ρ s w) (hx : Opd ρ (x e) (ev X)) (hy : Opd ρ (y e) (ev Y)) (hz : Opd ρ (z e) (ev Z)) (h : oMapupd kc x y z call e s k = some q) : Does P lc ρ s w (execOp ev o) k q := by
  obtain ⟨m, h, hm⟩ := hx _ _ h
  obtain ⟨key, h, hk⟩ := hy _ _ h
  obtain ⟨v, h, hv⟩ := hz _ _ h
  obtain ⟨h2, h⟩ := chk_some.1 h
  obtain ⟨h3, h⟩ := chk_some.1 h
  obtain ⟨h4, h⟩ := chk_some.1 h
  obtain ⟨p, hp, hown, hM⟩ := hm.inv_map (beq_t.1 h2)
  have ht := beq_t.1 h4
  obtain ⟨es, ck, hb, hes⟩ := map_cell hR hp ht
  have hl : Live s m.a (s.at m.a) := at_live rfl (by omega)
  have hK := mapKey_is hc hd hk h3
  have fin : ∀ (es' : List (V × V)) (es2 : Array MapEntry) (ck2 : Nat), (s.h.setK m.a ⟨2, 0, [], .nl, 0, 0, es', []⟩ fun h => k undefV ⟨h, s.n⟩) = some q → ER ρ es' es2.toList →
      (Instr.mapUpdate t (.map (some p.blk)) (ev Y) (ev Z)).run P w = .ok () { w with heap := w.heap.setIfInBounds p.blk (.map es2 ck2) } → Does P lc ρ s w (execOp ev o) k q := fun es' es2 ck2 h her hrun => by
    rw [setK_eq] at h
    obtain ⟨s1, s2⟩ := Go.MapKept.heap_set (o' := .map es2 ck2) hb
    refine ⟨_, _, ρ, { w with heap := w.heap.setIfInBounds p.blk (.map es2 ck2) }, undef, h, .inr ⟨rfl, ?_⟩, hR.setOwn hl hp hown (by simp) (by simp) s2 rfl rfl rfl ⟨(fun e => by cases e), (fun e => by cases e), (fun _ => ⟨hown, es2, ck2, s1, her⟩), (fun e => by cases e), by simp⟩, .tup .nil⟩
    unfold execOp
    rcases ho with ho | ho <;> rw [ho] <;> dsimp only <;> rw [hM] <;> exact urun hrun
  have h : setKey key v (s.at m.a).es (fun es => s.h.setK m.a ⟨2, 0, [], .nl, 0, 0, es, []⟩ fun h => k undefV ⟨h, s.n⟩) = some q := h
  rcases setKey_some hK hk hv 0 hes h with ⟨j, es', e', g1, g2, g3, g4, g5⟩ | ⟨es', g1, g2, g3⟩
  · refine fin es' (es.modify j fun e => { e with key := ev Y, val := ev Z }) ck g1 (by rw [Array.toList_modify]; exact g5) ?_
    have hj : es[j]? = some e' := by rw [← Array.getElem?_toList]; exact g3
    have hst : (Instr.keyThatStays (ev Y) (ev Y)).run P w = .ok (ev Y) w := by unfold Instr.keyThatStays; rw [sameBits_key hK]; rfl
    simp only [Instr.mapUpdate, Sem.run_bind, run_underlying h1, Result.andThen_ok, run_getObj_map hb, run_checkKey hd hK, run_findKey hd g2, Nat.zero_add, hj, Option.map_some, Option.getD_some, g4, hst, run_setObj_map _ hb]
  · refine fin es' (es.push { key := ev Y, val := ev Z, born := ck }) (ck + 1) g1 (by rw [Array.toList_push]; exact g3 ck) ?_
    simp only [Instr.mapUpdate, Sem.run_bind, run_underlying h1, Result.andThen_ok, run_getObj_map hb, run_checkKey hd hK, run_findKey hd g2, run_setObj_map _ hb]

/-! texts of bytes -/
theorem fold_push (ns : List Int) : ∀ (b : ByteArray), (ns.foldl (fun r n => r.push (UInt8.ofNat n.toNat)) b).data.toList = b.data.toList ++ ns.map fun n => UInt8.ofNat n.toNat := by
  induction ns with
  | nil => intro b; simp
  | cons n ns ih => intro b; rw [List.foldl_cons, ih]; simp [ByteArray.push]
theorem bytesOf_some : ∀ {l : List V} {l' : List Value} {f : List Nat → Res}, VRL ρ l l' → bytesOf l f = some q → ∃ bs, f bs = some q ∧ (∀ b ∈ bs, b ≤ 255) ∧ l' = (bs.map Int.ofNat).map (Value.int .u8)
  | _, _, f, .nil, h => ⟨[], h, by simp, rfl⟩
  | _, _, f, @VRL.cons _ v r l l' hv hl, h => by
    have h : chk (Nat.beq v.t 18) (chk (Nat.ble v.a 255) (bytesOf l fun l => f (v.a :: l))) = some q := h
    obtain ⟨h1, h⟩ := chk_some.1 h
    obtain ⟨h2, h⟩ := chk_some.1 h
    obtain ⟨b, g1, g2, g3⟩ := bytesOf_some hl h
    refine ⟨_, g1, fun c hc => ?_, ?_⟩
    · rcases List.mem_cons.1 hc with rfl | hc
      · exact ble_t.1 h2
      · exact g2 c hc
    · rw [hv.inv_int (k := .u8) (beq_t.1 h1), g3]; rfl

theorem ofBytes_ok {el : TypeId} (ho : o.op = .convert t u X) (h1 : P.underlying t = some (.slice el)) (h2 : P.underlying u = some .string) (h3 : P.underlying el = some (.int .u8))
    (hR : Rel lc ρ s w) (hx : Opd ρ (x e) (ev X)) (h : oOfBytes x call e s k = some q) : Does P lc ρ s w (execOp ev o) k q := by
  obtain ⟨v, h, hv⟩ := hx _ _ h
  have nilr : VR ρ (vStr []) (.string ByteArray.empty) := VR.str ByteArray.empty
  rcases bs_some.1 h with ⟨h4, h⟩ | ⟨h4, h⟩
  · obtain ⟨hA, _⟩ := hv.inv_nils (beq_t.1 h4)
    refine .same hR h ?_ nilr
    unfold execOp; rw [ho]; dsimp only; rw [hA]
    refine vrun ?_
    rw [run_convert_bytes_string w t u el _ _ _ h1 h3 h2]; rfl
  · obtain ⟨h5, h⟩ := chk_some.1 h
    have h4 := beq_f.1 h4
    obtain ⟨l, h, ht, hl, hg⟩ := loadL_some h
    have fin : ∀ (p : Pl) (A : Addr) (cap : Nat), ρ v.a = some p → ev X = .slice (some A) v.c cap → (A = ⟨p.blk, p.base + v.b, none⟩ ∨ v.c = 0) → Does P lc ρ s w (execOp ev o) k q := fun p A cap hp hX hcase => by
      obtain ⟨l', r1, r2, r3⟩ := cells_val hR hp ht hl hg
      have hl' : l'.length = v.c := by rw [← r1.length]; exact hl
      obtain ⟨b, g1, g2, g3⟩ := bytesOf_some r1 h
      have hrun : (loadCells A v.c).run P w = .ok ((b.map Int.ofNat).map (Value.int .u8)).toArray w := by
        rcases hcase with rfl | hc0
        · rw [← g3]; exact run_loadCells hl' r3
        · have : l' = [] := List.length_eq_zero_iff.1 (by rw [hl', hc0])
          rw [hc0, ← g3, this]; rfl
      refine .same (rv := .string ((b.map Int.ofNat).foldl (fun r n => r.push (UInt8.ofNat n.toNat)) ByteArray.empty)) hR g1 ?_ ?_
      · unfold execOp; rw [ho]; dsimp only; rw [hX]
        refine vrun ?_
        rw [run_convert_bytes_string w t u el _ _ _ h1 h3 h2]
        exact run_bytesToString w A v.c cap _ hrun
      · have := VR.str (ρ := ρ) ((b.map Int.ofNat).foldl (fun r n => r.push (UInt8.ofNat n.toNat)) ByteArray.empty)
        rw [fold_push] at this
        have hb : ((b.map Int.ofNat).map (fun n => UInt8.ofNat n.toNat)).map (·.toNat) = b := by
          rw [List.map_map, List.map_map]
          conv => rhs; rw [← List.map_id b]
          refine List.map_congr_left fun c hc => ?_
          have := g2 c hc
          show (UInt8.ofNat (Int.ofNat c).toNat).toNat = c
          simp [UInt8.toNat_ofNat]; omega
        have e : (ByteArray.empty.data.toList ++ (b.map Int.ofNat).map fun n => UInt8.ofNat n.toNat).map (·.toNat) = b := by
          rw [show ByteArray.empty.data.toList = [] from rfl, List.nil_append]; exact hb
        rw [e] at this; exact this
    rcases isS_cases h5 with h6 | h6 | h6
    · obtain ⟨p, A, cap, hp, hY, _, _, hcase⟩ := hv.inv_sl h6
      exact fin p A cap hp hY (by rcases hcase with ⟨h, _⟩ | ⟨_, h⟩; exact .inl h; exact .inr h)
    · exact absurd h6 h4
    · obtain ⟨p, A, hp, hY, hcase⟩ := hv.inv_sx h6
      exact fin p A _ hp hY hcase
end
end Go.Lm
