/- What the machine's words do, where the evaluator's do. -/
import Derived.Test.YtnnadeeoejchpaaLmRel
import Derived.Test.YtnnadeeoejchpaaLmComp
import Derived.Laws.Sem
set_option linter.all false
namespace Go.Lm

section
variable {P : Program} {w : World}

theorem run_underlying {t : TypeId} {d : TypeDesc} (h : P.underlying t = some d) : (underlying t).run P w = .ok d w := by
  simp only [underlying, Sem.run_bind, run_program, Result.andThen_ok, h]; rfl
theorem run_typeInfo {t : TypeId} {i : TypeInfo} (h : P.info? t = some i) : (typeInfo t).run P w = .ok i w := by
  simp only [typeInfo, Sem.run_bind, run_program, Result.andThen_ok, h]; rfl
theorem info_of_underlying {t : TypeId} {d : TypeDesc} (h : P.underlying t = some d) : ∃ i, P.info? t = some i := by
  unfold Program.underlying at h
  cases e : P.info? t with
  | some i => exact ⟨i, rfl⟩
  | none => simp [e] at h
theorem run_sizeOf {t : TypeId} {i : TypeInfo} (h : P.info? t = some i) : (sizeOf t).run P w = .ok (P.cellsOf t) w := by
  simp only [sizeOf, Sem.run_bind, run_typeInfo h, Result.andThen_ok, Program.cellsOf, h]; rfl
theorem run_isAgg {t : TypeId} {g : Bool} (h : isAggT P t = some g) : (isAgg t).run P w = .ok g w := by
  unfold isAggT at h
  cases e : P.underlying t with
  | none => simp [e] at h
  | some d =>
    simp only [isAgg, Sem.run_bind, run_underlying e, Result.andThen_ok]
    cases d <;> simp [e] at h <;> subst h <;> rfl
theorem isAgg_info {t : TypeId} {g : Bool} (h : isAggT P t = some g) : ∃ i, P.info? t = some i := by
  unfold isAggT at h
  cases e : P.underlying t with
  | none => simp [e] at h
  | some d => exact info_of_underlying e
theorem run_zeroValue {t : TypeId} {i : TypeInfo} {z : Value} (h : P.info? t = some i) (hz : i.zero = some z) : (zeroValue t).run P w = .ok z w := by
  simp only [zeroValue, Sem.run_bind, run_typeInfo h, Result.andThen_ok, hz]; rfl

theorem addr_add (b o n : Nat) : Addr.add ⟨b, o, none⟩ n = ⟨b, o + n, none⟩ := by
  unfold Addr.add; split
  · next h => subst h; rfl
  · rfl

theorem run_load_some {a : Addr} {v : Value} (h : w.cell? a = some v) : (load a).run P w = .ok v w := by
  rw [run_load, h]
theorem run_loadCellsFrom (b o : Nat) : ∀ (n i : Nat) (l : List Value) (acc : Array Value), l.length = n → (∀ j v, l[j]? = some v → w.cell? ⟨b, o + i + j, none⟩ = some v) →
    (loadCellsFrom ⟨b, o, none⟩ i n acc).run P w = .ok ⟨acc.toList ++ l⟩ w := by
  intro n
  induction n with
  | zero =>
    intro i l acc hl h
    have : l = [] := List.length_eq_zero_iff.1 hl
    subst this
    simp [loadCellsFrom]
  | succ n ih =>
    intro i l acc hl h
    cases l with
    | nil => simp at hl
    | cons v l =>
      have h0 := h 0 v rfl
      simp only [loadCellsFrom, Sem.run_bind, addr_add]
      rw [run_load_some (by simpa using h0)]
      simp only [Result.andThen_ok]
      rw [ih (i + 1) l (acc.push v) (by simpa using hl) (fun j x hj => by
        have := h (j + 1) x (by simpa using hj)
        rw [show o + (i + 1) + j = o + i + (j + 1) by omega]; exact this)]
      simp
theorem run_loadCells {b o n : Nat} {l : List Value} (hl : l.length = n) (h : ∀ j v, l[j]? = some v → w.cell? ⟨b, o + j, none⟩ = some v) :
    (loadCells ⟨b, o, none⟩ n).run P w = .ok ⟨l⟩ w := by
  unfold loadCells
  rw [run_loadCellsFrom b o n 0 l #[] hl (fun j v hj => by simpa using h j v hj)]
  simp

/-- what a world is behind a row of stores -/
structure Stored (w w' : World) (b o : Nat) (vs : List Value) (cs : Array Value) (ty : TypeId) : Prop where
  size : w'.heap.size = w.heap.size
  others : ∀ r, r ≠ b → w'.heap[r]? = w.heap[r]?
  here : ∃ cs', w'.heap[b]? = some (.cells cs' ty (0, 0)) ∧ cs'.size = cs.size ∧ ∀ j, cs'[j]? = if o ≤ j ∧ j < o + vs.length then vs[j - o]? else cs[j]?
  os : w'.os = w.os
  tape : w'.tape = w.tape
  output : w'.output = w.output

theorem modify_same {α : Type} {xs : Array α} {i : Nat} {x : α} {f : α → α} (h : xs[i]? = some x) : (xs.modify i f)[i]? = some (f x) := by
  rw [Array.getElem?_modify]; simp [h]
theorem modify_ne {α : Type} {xs : Array α} {i j : Nat} {f : α → α} (h : j ≠ i) : (xs.modify i f)[j]? = xs[j]? := by
  rw [Array.getElem?_modify]; simp [Ne.symm h]

theorem atom_store {v : Value} (h : atom v) (a : Addr) (w : World) : (store a v).run P w = (match w.cell? a with
    | some _ => if w.frozen? a then .halt (.unsupported (.unsafePointer "a write to bytes that a string shares")) w else .ok () (w.setCell a v)
    | none => match w.farStore P a v false with
      | .ok (w, _) => .ok () w
      | .error h => .halt h w) := by
  cases v <;> first
    | exact False.elim h
    | (simp only [store, Sem.run]
       cases w.cell? a with
       | some x => rfl
       | none => rfl)

theorem run_storeCells {b : Nat} : ∀ (vs : List Value) (o i : Nat) (w : World) (cs : Array Value) (ty : TypeId), w.heap[b]? = some (.cells cs ty (0, 0)) → (∀ v ∈ vs, atom v) → o + i + vs.length ≤ cs.size →
    ∃ w', (storeCells ⟨b, o, none⟩ vs i).run P w = .ok () w' ∧ Stored w w' b (o + i) vs cs ty
  | [], o, i, w, cs, ty, hb, _, _ => ⟨w, rfl, rfl, fun _ _ => rfl, ⟨cs, hb, rfl, fun j => by rw [if_neg (by simp only [List.length_nil]; omega)]⟩, rfl, rfl, rfl⟩
  | v :: vs, o, i, w, cs, ty, hb, ha, hl => by
    have hin : o + i < cs.size := by simp at hl; omega
    have hc : w.cell? ⟨b, o + i, none⟩ = some cs[o + i] := by simp [World.cell?, hb, hin]
    have hf : w.frozen? ⟨b, o + i, none⟩ = false := by simp [World.frozen?, hb]
    have hs : (w.setCell ⟨b, o + i, none⟩ v).heap[b]? = some (.cells (cs.setIfInBounds (o + i) v) ty (0, 0)) := by
      simp only [World.setCell]; rw [modify_same hb]; rfl
    obtain ⟨w', hr, hst⟩ := run_storeCells vs o (i + 1) (w.setCell ⟨b, o + i, none⟩ v) _ ty hs (fun x hx => ha x (List.mem_cons_of_mem _ hx)) (by simp at hl ⊢; omega)
    refine ⟨w', ?_, ?_⟩
    · simp only [storeCells, Sem.run_bind, addr_add]
      rw [atom_store (ha v List.mem_cons_self), hc]
      simp only [hf, Bool.false_eq_true, if_false, Result.andThen_ok]
      exact hr
    · obtain ⟨cs', h1, h2, h3⟩ := hst.here
      refine ⟨?_, fun r hr => ?_, ⟨cs', h1, by simpa using h2, fun j => ?_⟩, hst.os, hst.tape, hst.output⟩
      · rw [hst.size]; simp [World.setCell]
      · rw [hst.others r hr]; simp only [World.setCell]; exact modify_ne hr
      · rw [h3]
        simp only [List.length_cons]
        by_cases e : j = o + i
        · subst e
          rw [if_neg (by omega), if_pos (by omega)]
          simp [hin]
        · by_cases e2 : o + (i + 1) ≤ j ∧ j < o + (i + 1) + vs.length
          · rw [if_pos e2, if_pos (by omega)]
            obtain ⟨d, rfl⟩ : ∃ d, j = o + (i + 1) + d := ⟨j - (o + (i + 1)), by omega⟩
            rw [show o + (i + 1) + d - (o + (i + 1)) = d by omega, show o + (i + 1) + d - (o + i) = d + 1 by omega]; rfl
          · rw [if_neg e2, if_neg (by omega), Array.getElem?_setIfInBounds_ne (by omega)]
end
end Go.Lm
