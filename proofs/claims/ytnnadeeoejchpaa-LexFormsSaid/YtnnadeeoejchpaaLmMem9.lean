/- Structs that are compared. -/
import Derived.Test.YtnnadeeoejchpaaLmMem8
import Derived.Laws.StructEq
set_option linter.all false
namespace Go.Lm
open Go.MapKept (IsKey sameNow_of_keys)
section
variable {P : Program} {lc : Lc}
variable {ρ : Rho} {s : St} {w : World} {k : K} {q : V × St} {call : Caller} {e : Env}
variable {t u : TypeId} {X Y Z : Operand} {ev : Operand → Value} {o : Oper} {x y z : Od} {c : Call}

theorem run_equal_key {d : TypeDesc} {n : Nat} {a b : Value} (hd : P.underlying t = some d) (ha : IsKey d a) (hb : IsKey d b) : ∃ r, (Op.equalIn (n + 1) t a b).run P w = .ok r w ∧ (r = true ↔ a = b) := by
  obtain ⟨r, hr, hiff⟩ := sameNow_of_keys ha hb
  refine ⟨r, ?_, hiff⟩
  cases d <;> cases a <;> cases b <;> simp_all [IsKey, Instr.sameNow, Op.equalIn, run_underlying hd]

theorem keyCode_desc {kc : Nat} (h : keyCode P t = some kc) : ∃ d, P.underlying t = some d ∧ isAggT P t = some false := by
  unfold keyCode at h
  cases e : P.underlying t with
  | none => rw [e] at h; cases h
  | some d => refine ⟨d, rfl, ?_⟩; unfold isAggT; rw [e] at h ⊢; cases d <;> simp at h ⊢

theorem run_part1 {l : List Value} {i : Nat} {r : Value} (hg : isAggT P t = some false) (h : l[i]? = some r) : (part t ⟨l⟩ i).run P w = .ok r w := by
  simp only [part, Sem.run_bind, run_isAgg hg, Result.andThen_ok, Bool.false_eq_true, if_false]
  have : (⟨l⟩ : Array Value)[i]? = some r := by show l.toArray[i]? = _; simp [h]
  rw [this]; rfl

theorem eqFlats_ok {d : Nat} {L M : List Value} : ∀ (fs : List Field) (i : Nat) (kcs : List Nat) (l m : List V), ((fs.zipIdx i).all fun (f, i) => f.name != "_" && f.offset == i) = true → keyCodes P (fs.map (·.type)) = some kcs →
    VRL ρ l (L.drop i) → VRL ρ m (M.drop i) → eqFlats kcs l m ≤ 1 → (Op.eqFields (d + 1) ⟨L⟩ ⟨M⟩ fs).run P w = .ok (Nat.beq (eqFlats kcs l m) 1) w
  | [], i, kcs, l, m, hf, hk, hl, hm, h => by
    simp only [List.map_nil, keyCodes, Option.some.injEq] at hk
    subst hk
    cases l with
    | cons => exact absurd h (by show ¬ 2 ≤ 1; omega)
    | nil => cases m with
      | cons => exact absurd h (by show ¬ 2 ≤ 1; omega)
      | nil => rfl
  | f :: fs, i, kcs, l, m, hf, hk, hl, hm, h => by
    simp only [List.map_cons, keyCodes] at hk
    cases e1 : keyCode P f.type with
    | none => rw [e1] at hk; cases hk
    | some kc => cases e2 : keyCodes P (fs.map (·.type)) with
      | none => rw [e1, e2] at hk; cases hk
      | some kcs' =>
        rw [e1, e2] at hk; simp only [Option.some.injEq] at hk; subst hk
        simp only [List.zipIdx_cons, List.all_cons, Bool.and_eq_true, bne_iff_ne, beq_iff_eq] at hf
        obtain ⟨⟨hn, ho⟩, hf⟩ := hf
        cases hLd : L.drop i with
        | nil => rw [hLd] at hl; cases hl; exact absurd h (by show ¬ 2 ≤ 1; omega)
        | cons A L' => cases hMd : M.drop i with
          | nil =>
            rw [hMd] at hm; cases hm
            cases l <;> exact absurd h (by show ¬ 2 ≤ 1; omega)
          | cons B M' =>
            rw [hLd] at hl; rw [hMd] at hm
            cases hl with
            | @cons a _ l _ ha hl => cases hm with
              | @cons b _ m _ hb hm =>
                have hA : L[i]? = some A := by have : (L.drop i)[0]? = some A := by rw [hLd]; rfl
                                               simpa using this
                have hB : M[i]? = some B := by have : (M.drop i)[0]? = some B := by rw [hMd]; rfl
                                               simpa using this
                have hL2 : L.drop (i + 1) = L' := by rw [← List.drop_drop (i := 1) (j := i), hLd]; rfl
                have hM2 : M.drop (i + 1) = M' := by rw [← List.drop_drop (i := 1) (j := i), hMd]; rfl
                have hdef : eqFlats (kc :: kcs') (a :: l) (b :: m) = bs (mapKey kc a) (Nat.rec (motive := fun _ => Nat) 0 (fun p _ => Nat.rec (motive := fun _ => Nat) (eqFlats kcs' l m) (fun _ _ => 2) p) (eqFlat a b)) 2 := rfl
                rw [hdef] at h ⊢
                by_cases hmk : mapKey kc a = true
                · rw [hmk, bs_true] at h ⊢
                  obtain ⟨dd, hdd, hagg⟩ := keyCode_desc e1
                  have hKA := mapKey_is e1 hdd ha hmk
                  have hle : eqFlat a b ≤ 1 := by
                    match hq : eqFlat a b with
                    | 0 => omega
                    | 1 => omega
                    | n + 2 => rw [hq] at h; exact absurd h (by show ¬ 2 ≤ 1; omega)
                  obtain ⟨hKB, hiff⟩ := eqFlat_key hKA ha hb hle
                  obtain ⟨r, hr, hr2⟩ := run_equal_key (P := P) (w := w) (n := d) hdd hKA hKB
                  simp only [Op.eqFields, if_pos hn, Sem.run_bind, ho, run_part1 hagg hA, run_part1 hagg hB, hr, Result.andThen_ok]
                  match hq : eqFlat a b with
                  | 0 =>
                    have : r = false := by cases r; rfl; have := hiff.2 (hr2.1 rfl); omega
                    subst this; rfl
                  | 1 =>
                    have : r = true := hr2.2 (hiff.1 hq)
                    subst this
                    rw [hq] at h
                    have ih := eqFlats_ok (d := d) fs (i + 1) kcs' l m hf e2 (by rw [hL2]; exact hl) (by rw [hM2]; exact hm) h
                    simp only [Bool.not_true, Bool.false_eq_true, if_false]
                    exact ih
                  | n + 2 => omega
                · rw [Bool.not_eq_true] at hmk; rw [hmk] at h; exact absurd h (by show ¬ 2 ≤ 1; omega)

theorem eqG_ok {f : Bool → Bool} {op : BinOp} {fs : Array Field} {kcs : List Nat} (hop : (op = .eql ∧ f = fun b => b) ∨ (op = .neq ∧ f = nB)) (ho : o.op = .binOp op t X Y u) (h1 : P.underlying t = some (.struct fs)) (h2 : flatEq P t fs = some kcs)
    (hR : Rel lc ρ s w) (hx : Opd ρ (x e) (ev X)) (hy : Opd ρ (y e) (ev Y)) (h : bG f kcs x y call e s k = some q) : Does P lc ρ s w (execOp ev o) k q := by
  unfold flatEq at h2
  split at h2
  · next hc =>
    simp only [Bool.and_eq_true, Bool.not_eq_true'] at hc
    obtain ⟨⟨hz, hst⟩, hgd⟩ := hc
    obtain ⟨a, h, ha⟩ := hx _ _ h
    obtain ⟨b, h, hb⟩ := hy _ _ h
    obtain ⟨h3, h⟩ := chk_some.1 h
    obtain ⟨h4, h⟩ := chk_some.1 h
    obtain ⟨A, hA, _, hXA⟩ := ha.inv_agg (beq_t.1 h3)
    obtain ⟨B, hB, _, hXB⟩ := hb.inv_agg (beq_t.1 h4)
    have hle : eqFlats kcs a.l b.l ≤ 1 := by rcases by3_some h with ⟨h, _⟩ | ⟨h, _⟩ <;> omega
    have hfs : P.fieldsOf t = fs := by simp [Program.fieldsOf, h1]
    have hrun : (Op.equalIn 10000 t (.agg ⟨A⟩) (.agg ⟨B⟩)).run P w = .ok (Nat.beq (eqFlats kcs a.l b.l) 1) w := by
      rw [run_equalIn_struct w 9999 t ⟨A⟩ ⟨B⟩ (by rw [hfs]; exact h1) hst, hfs]
      exact eqFlats_ok (d := 9998) fs.toList 0 kcs a.l b.l hz h2 hA hB hle
    have hk : ∃ v, k v s = some q ∧ VR ρ v (.bool (f (Nat.beq (eqFlats kcs a.l b.l) 1))) := by
      rcases by3_some h with ⟨h5, h⟩ | ⟨h5, h⟩
      · obtain ⟨v, hv, hr⟩ := vB_some (ρ := ρ) h; exact ⟨v, hv, by rw [h5]; exact hr⟩
      · obtain ⟨v, hv, hr⟩ := vB_some (ρ := ρ) h; exact ⟨v, hv, by rw [h5]; exact hr⟩
    obtain ⟨v, hk, hv⟩ := hk
    refine .same hR hk ?_ hv
    unfold execOp; rw [ho]; dsimp only
    refine vrun ?_
    rw [hXA, hXB]
    simp only [Sem.run_bind, run_eqGuard_agg w op t X Y ⟨A⟩ ⟨B⟩ hgd, Result.andThen_ok]
    rcases hop with ⟨rfl, rfl⟩ | ⟨rfl, rfl⟩
    · rw [run_eql_struct, hrun]; rfl
    · rw [run_neq_struct, hrun]
      simp only [Result.andThen_ok]
      cases Nat.beq (eqFlats kcs a.l b.l) 1 <;> rfl
  · cases h2
end
end Go.Lm
