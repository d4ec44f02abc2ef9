/- Code, walked. -/
import Derived.Test.YtnnadeeoejchpaaLmCall
import Derived.LoopNIn
set_option linter.all false
namespace Go.Lm

/-- the marks among an activation's deferred calls: their blocks are new since there were h0, open, and not the evaluator's -/
def MarksOk (h0 : Nat) (ρ : Rho) (s : St) (w : World) : List Deferred → Prop
  | [] => True
  | d :: ds => (∃ r, d = { target := .collected r, args := #[] } ∧ h0 ≤ r ∧ r < w.heap.size ∧ w.heap[r]? = some (.deferred (some [])) ∧ ¬ Used ρ s r ∧ ∀ x, { target := .collected x, args := #[] } ∈ ds → x ≠ r) ∧ MarksOk h0 ρ s w ds

def exOf : Ex → Exit
  | .nrm => .normal
  | .brk j => .exit j
  | .ret => .ret

section
variable {P : Program} {lc : Lc}
variable {F : Fence} {n : Nat} {call : Caller} {q : V × St}

theorem MarksOk.goes {h0 : Nat} {ρ ρ' : Rho} {s s' : St} {w w' : World} (hg : Goes lc ρ s w ρ' s' w') : ∀ {ds : List Deferred}, MarksOk h0 ρ s w ds → MarksOk h0 ρ' s' w' ds
  | [], _ => trivial
  | d :: ds, h => by
    obtain ⟨⟨r, h1, h2, h3, h4, h5, h6⟩, h7⟩ := h
    have hno : ¬ Owned ρ s r := fun ⟨i, c, p, a, b, _, e⟩ => h5 ⟨i, c, p, a, b, e⟩
    refine ⟨⟨r, h1, h2, Nat.lt_of_lt_of_le h3 hg.keep.size, (hg.keep.same r h3 hno).trans h4, fun hu => ?_, h6⟩, h7.goes hg⟩
    rcases hg.used r hu with h | h
    · omega
    · exact h5 h

theorem MarksOk.lt {h0 : Nat} {ρ : Rho} {s : St} {w : World} : ∀ {ds : List Deferred}, MarksOk h0 ρ s w ds → ∀ x, { target := .collected x, args := #[] } ∈ ds → x < w.heap.size
  | [], _, x, hx => by cases hx
  | d :: ds, h, x, hx => by
    obtain ⟨⟨r, h1, h2, h3, h4, h5, h6⟩, h7⟩ := h
    rcases List.mem_cons.1 hx with e | e
    · rw [h1] at e; cases e; exact h3
    · exact h7.lt x e

theorem exr_some {x : Ex} {a c : Res} {b : Nat → Res} (h : exr x a b c = some q) : (x = .nrm ∧ a = some q) ∨ (∃ j, x = .brk j ∧ b j = some q) ∨ (x = .ret ∧ c = some q) := by
  cases x with
  | nrm => exact .inl ⟨rfl, h⟩
  | brk j => exact .inr (.inl ⟨j, rfl, h⟩)
  | ret => exact .inr (.inr ⟨rfl, h⟩)

/-- regions that draw are right in the walk -/
def DrawsOk (P : Program) (lc : Lc) (F : Fence) (n : Nat) (call : Caller) : Prop :=
  ∀ (N D id : Nat) (ops : Array Oper) (e : Env) (s : St) (ρ : Rho) (w : World) (a : Act) (k : KX) (q : V × St) (Q : Exit → Act → World → Prop),
    drawOk ops = true → ops.toList.all (fun o => dstOk N o.dst) = true → N ≤ 1000000 →
    cDraw ((ops.toList.zip (masks ops.toList [])).map fun p => compDI P D ops p.2 p.1) call e s k = some q → Rel lc ρ s w → EnvR ρ e a → NoD D e → a.tmps.size = N →
    (∀ e' s' ρ' w' a', k .nrm e' s' = some q → Goes lc ρ s w ρ' s' w' → EnvR ρ' e' a' → NoD D e' → a'.tmps.size = N → a'.defers = a.defers → Q .normal a' w') →
    (Code.region id ops true).wpIn F n P Q a w

theorem cLoop_eq (b : Cc) : cLoop b = Nat.rec (motive := fun _ => Cc) (fun _ _ _ _ => none) (fun _ ih call e s k => b call e s fun x e s => exr x (ih call e s k) (fun j => k (.brk j) e s) (k .ret e s)) loopFuel := rfl

/-- a walk of code: what it comes to, as the evaluator has it -/
def WalkOk (P : Program) (lc : Lc) (F : Fence) (n : Nat) (N D h0 : Nat) (call : Caller) (c : Code) (cc : Cc) : Prop :=
  ∀ (e : Env) (s : St) (ρ : Rho) (w : World) (a : Act) (kx : KX) (q : V × St) (Q : Exit → Act → World → Prop),
    cc call e s kx = some q → Rel lc ρ s w → EnvR ρ e a → NoD D e → a.tmps.size = N → MarksOk h0 ρ s w a.defers → h0 ≤ w.heap.size →
    (∀ x e' s' ρ' w' a', kx x e' s' = some q → Goes lc ρ s w ρ' s' w' → EnvR ρ' e' a' → NoD D e' → a'.tmps.size = N → MarksOk h0 ρ' s' w' a'.defers → Q (exOf x) a' w') →
    c.wpIn F n P Q a w

theorem walk_loop {N D h0 : Nat} {c : Code} {cc : Cc} (h : WalkOk P lc F n N D h0 call c cc) : WalkOk P lc F n N D h0 call (.loop c) (cLoop cc) := by
  intro e s ρ w a kx q Q hk hR hE hD hN hM hh hQ
  refine wpIn_loop_rounds loopFuel ?_
  rw [cLoop_eq] at hk
  generalize loopFuel = m at hk ⊢
  induction m generalizing e s ρ w a with
  | zero => cases hk
  | succ m ih =>
    refine h e s ρ w a _ q _ hk hR hE hD hN hM hh fun x e' s' ρ' w' a' hk' hg hE' hD' hN' hM' => ?_
    rcases exr_some hk' with ⟨rfl, hk'⟩ | ⟨j, rfl, hk'⟩ | ⟨rfl, hk'⟩
    · exact ih e' s' ρ' w' a' hg.rel hE' hD' hN' hM' (Nat.le_trans hh hg.keep.size) (fun x e2 s2 ρ2 w2 a2 hk2 hg2 => hQ x e2 s2 ρ2 w2 a2 hk2 (hg.trans hg2)) hk'
    · exact hQ (.brk j) e' s' ρ' w' a' hk' hg hE' hD' hN' hM'
    · exact hQ .ret e' s' ρ' w' a' hk' hg hE' hD' hN' hM'

theorem walk_seq {N D h0 : Nat} {c d : Code} {cc cd : Cc} (h : WalkOk P lc F n N D h0 call c cc) (h' : WalkOk P lc F n N D h0 call d cd) : WalkOk P lc F n N D h0 call (.seq c d) (cSeq cc cd) := by
  intro e s ρ w a kx q Q hk hR hE hD hN hM hh hQ
  refine wpIn_seq (h e s ρ w a _ q _ hk hR hE hD hN hM hh fun x e' s' ρ' w' a' hk' hg hE' hD' hN' hM' => ?_)
  rcases exr_some hk' with ⟨rfl, hk'⟩ | ⟨j, rfl, hk'⟩ | ⟨rfl, hk'⟩
  · exact h' e' s' ρ' w' a' _ q Q hk' hg.rel hE' hD' hN' hM' (Nat.le_trans hh hg.keep.size) fun x e2 s2 ρ2 w2 a2 hk2 hg2 => hQ x e2 s2 ρ2 w2 a2 hk2 (hg.trans hg2)
  · exact hQ (.brk j) e' s' ρ' w' a' hk' hg hE' hD' hN' hM'
  · exact hQ .ret e' s' ρ' w' a' hk' hg hE' hD' hN' hM'

theorem walk_block {N D h0 id : Nat} {c : Code} {cc : Cc} (h : WalkOk P lc F n N D h0 call c cc) : WalkOk P lc F n N D h0 call (.block id c) (cBlock id cc) := by
  intro e s ρ w a kx q Q hk hR hE hD hN hM hh hQ
  refine wpIn_block (h e s ρ w a _ q _ hk hR hE hD hN hM hh fun x e' s' ρ' w' a' hk' hg hE' hD' hN' hM' => ?_)
  rcases exr_some hk' with ⟨rfl, hk'⟩ | ⟨j, rfl, hk'⟩ | ⟨rfl, hk'⟩
  · exact hQ .nrm e' s' ρ' w' a' hk' hg hE' hD' hN' hM'
  · show if j = id then Q .normal a' w' else Q (.exit j) a' w'
    rcases bs_some.1 hk' with ⟨h1, hk'⟩ | ⟨h1, hk'⟩
    · rw [if_pos (beq_t.1 h1)]; exact hQ .nrm e' s' ρ' w' a' hk' hg hE' hD' hN' hM'
    · rw [if_neg (beq_f.1 h1)]; exact hQ (.brk j) e' s' ρ' w' a' hk' hg hE' hD' hN' hM'
  · exact hQ .ret e' s' ρ' w' a' hk' hg hE' hD' hN' hM'

theorem walk_cond {N D h0 : Nat} {x : Operand} {x' : Od} {c d : Code} {cc cd : Cc} (hx : compO [] x = some x') (h : WalkOk P lc F n N D h0 call c cc) (h' : WalkOk P lc F n N D h0 call d cd) :
    WalkOk P lc F n N D h0 call (.cond x c d) (cCond x' cc cd) := by
  intro e s ρ w a kx q Q hk hR hE hD hN hM hh hQ
  obtain ⟨v, hk, hv⟩ := compO_ok hE AlOk.nil hx _ _ (show x' e (fun v => bool v (cc call e s kx) (cd call e s kx)) = some q from hk)
  rcases bool_some hv hk with ⟨h1, hk⟩ | ⟨h1, hk⟩
  · exact wpIn_cond_true h1 (h e s ρ w a kx q Q hk hR hE hD hN hM hh hQ)
  · exact wpIn_cond_false h1 (h' e s ρ w a kx q Q hk hR hE hD hN hM hh hQ)

theorem walk_ops {N D h0 id : Nat} {ops : Array Oper} (hB : N ≤ 1000000) (hF : ∀ f, F.fn f) (hO : OpsOk P lc F n call) :
    WalkOk P lc F n N D h0 call (.region id ops false) (cOps (compRegion P N D ops ops.toList [])) := by
  intro e s ρ w a kx q Q hk hR hE hD hN hM hh hQ
  refine wpIn_region_list (region_ok (ke := fun e s => kx .nrm e s) hB hF hO ops.toList [] e s ρ w a hk hR hE AlOk.nil hD hN fun e' s' ρ' w' a' hk' hg hE' hD' hN' hd => ?_)
  exact hQ .nrm e' s' ρ' w' a' hk' hg hE' hD' hN' (by rw [hd]; exact hM.goes hg)
end
end Go.Lm
