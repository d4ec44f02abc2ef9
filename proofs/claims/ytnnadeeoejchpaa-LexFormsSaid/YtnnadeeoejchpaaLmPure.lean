/- Operations that only read leave the memory as it is. -/
import Derived.Test.YtnnadeeoejchpaaLmDraw4
set_option linter.all false
namespace Go.Lm

def OdK (x : Od) : Prop := ∀ e k q, x e k = some q → ∃ v, k v = some q
def Pure (f : Opr) : Prop := ∀ call e s k q, f call e s k = some q → ∃ v, k v s = some q

theorem ot_k (i : Nat) : OdK (ot i) := fun e k q h => by
  unfold ot at h; rw [orec] at h
  obtain ⟨v, _, h⟩ := bind_some.1 h; exact ⟨v, h⟩
theorem oc_k (v : V) : OdK (oc v) := fun e k q h => ⟨v, h⟩
theorem compO_k {A : Al} {X : Operand} {x : Od} (h : compO A X = some x) : OdK x := by
  unfold compO at h
  cases hA : A.on X with
  | val v => rw [hA] at h; cases h; exact fun e k q h => ⟨v, h⟩
  | op y =>
    rw [hA] at h
    cases y with
    | tmp t => cases h; exact ot_k t
    | const v =>
      simp only [compO0] at h
      cases hv : compV v with
      | none => rw [hv] at h; cases h
      | some u => rw [hv] at h; cases h; exact oc_k u
    | global g => cases h
    | func f => cases h; exact oc_k _
theorem compOs_k {A : Al} : ∀ {XS : List Operand} {xs : List Od}, compOs A XS = some xs → ∀ e k q, evL xs e k = some q → ∃ l, k l = some q
  | [], xs, h, e, k, q, hq => by cases h; exact ⟨[], hq⟩
  | X :: XS, xs, h, e, k, q, hq => by
    unfold compOs at h
    cases e1 : compO A X with
    | none => rw [e1] at h; cases h
    | some x => cases e2 : compOs A XS with
      | none => rw [e1, e2] at h; cases h
      | some xs' =>
        rw [e1, e2] at h; cases h
        obtain ⟨v, hq⟩ := compO_k e1 _ _ _ (show x e (fun v => evL xs' e fun vs => k (v :: vs)) = some q from hq)
        obtain ⟨l, hq⟩ := compOs_k e2 _ _ _ hq
        exact ⟨_, hq⟩

section
variable {A : Al} {X Y Z : Operand}
theorem pure_bad (n : Nat) : Pure (oBad n) := fun _ _ _ _ _ h => by cases h
theorem p1 {f : Od → Opr} (h : ∀ x, OdK x → Pure (f x)) : Pure (o1 A X f) := fun call e s k q hq => by
  obtain ⟨x, hx, hq⟩ := o1_some hq
  exact h x (compO_k hx) call e s k q hq
theorem p2 {f : Od → Od → Opr} (h : ∀ x y, OdK x → OdK y → Pure (f x y)) : Pure (o2 A X Y f) := p1 fun x hx => p1 fun y hy => h x y hx hy
theorem pL {XS : List Operand} {f : List Od → Opr} (h : ∀ xs, (∀ e k q, evL xs e k = some q → ∃ l, k l = some q) → Pure (f xs)) : Pure (oL A XS f) := fun call e s k q hq => by
  obtain ⟨x, hx, hq⟩ := oL_some hq
  exact h x (compOs_k hx) call e s k q hq
def OdKO (x : Option Od) : Prop := ∀ y, x = some y → OdK y
theorem pO {X : Option Operand} {f : Option Od → Opr} (h : ∀ x, OdKO x → Pure (f x)) : Pure (oO A X f) := by
  cases X with
  | none => exact h none fun y hy => by cases hy
  | some X => exact p1 fun x hx => h (some x) fun y hy => by cases hy; exact hx
end

def FnK (F : V → V → KV → Res) : Prop := ∀ x y f q, F x y f = some q → ∃ v, f v = some q
theorem bI_pure {F : V → V → KV → Res} (hF : FnK F) {x y : Od} (hx : OdK x) (hy : OdK y) : Pure (bI F x y) := fun call e s k q h => by
  obtain ⟨a, h⟩ := hx _ _ _ h
  obtain ⟨b, h⟩ := hy _ _ _ h
  exact hF a b _ q h
theorem chk_k {b : Bool} {r : Res} {q : V × St} (h : chk b r = some q) : r = some q := (chk_some.1 h).2
theorem bs_k {b : Bool} {x y : Res} {q : V × St} {G : Prop} (h : bs b x y = some q) (h1 : x = some q → G) (h2 : y = some q → G) : G := by
  rcases bs_some.1 h with ⟨_, h⟩ | ⟨_, h⟩
  · exact h1 h
  · exact h2 h
theorem ofInt_k {kd : Nat} {n : Int} {f : KV} {q : V × St} (h : ofInt kd n f = some q) : ∃ v, f v = some q := by
  cases n with
  | ofNat n => exact ⟨_, by simpa [ofInt] using h⟩
  | negSucc n => exact ⟨_, by simpa [ofInt] using h⟩
theorem toI_k {kd : Nat} {x : V} {f : Int → Res} {q : V × St} (h : toI kd x f = some q) : ∃ a, f a = some q :=
  bs_k h (fun h => ⟨_, h⟩) fun h => ⟨_, chk_k h⟩
theorem two_k {kd : Nat} {x y : V} {f : Int → Int → Res} {q : V × St} (h : two kd x y f = some q) : ∃ a b, f a b = some q := by
  obtain ⟨a, h⟩ := toI_k h
  obtain ⟨b, h⟩ := toI_k h
  exact ⟨a, b, h⟩
theorem twoW {kd : Nat} {x y : V} {g : Int → Int → Int} {f : KV} {q : V × St} (h : two kd x y (fun a b => wrapI kd (g a b) f) = some q) : ∃ v, f v = some q := by
  obtain ⟨a, b, h⟩ := two_k h; exact ofInt_k h
theorem addI_k (kd : Nat) : FnK (addI kd) := fun x y f q h => by
  unfold addI at h
  refine bs_k h (fun h => bs_k h (fun h => ?_) twoW) twoW
  rw [fN_eq] at h; exact ⟨_, h⟩
theorem subI_k (kd : Nat) : FnK (subI kd) := fun x y f q h => by
  unfold subI at h
  refine bs_k h (fun h => bs_k h (fun h => bs_k h (fun h => ?_) twoW) twoW) twoW
  rw [fN_eq] at h; exact ⟨_, h⟩
theorem mulI_k (kd : Nat) : FnK (mulI kd) := fun x y f q h => twoW h
theorem quoI_k (kd : Nat) : FnK (quoI kd) := fun x y f q h => bs_k h (fun h => by cases h) twoW
theorem remI_k (kd : Nat) : FnK (remI kd) := fun x y f q h => bs_k h (fun h => by cases h) fun h => by
  obtain ⟨a, b, h⟩ := two_k h; exact ofInt_k h
theorem vB_k {b : Bool} {f : KV} {q : V × St} (h : vB b f = some q) : ∃ v, f v = some q := bs_k h (fun h => ⟨_, h⟩) fun h => ⟨_, h⟩
theorem leI_k {kd : Nat} {x y : V} {f : Bool → Res} {q : V × St} (h : leI kd x y f = some q) : ∃ b, f b = some q :=
  bs_k h (fun h => ⟨_, h⟩) fun h => by obtain ⟨a, b, h⟩ := two_k h; exact ⟨_, h⟩
theorem eqI_k {kd : Nat} {x y : V} {f : Bool → Res} {q : V × St} (h : eqI kd x y f = some q) : ∃ b, f b = some q := by
  obtain ⟨a, b, h⟩ := two_k h; exact ⟨_, h⟩
theorem cmp_k {kd : Nat} {g : Bool → Bool} : FnK (fun x y f => leI kd x y fun b => vB (g b) f) := fun x y f q h => by
  obtain ⟨b, h⟩ := leI_k h; exact vB_k h
theorem cmp_k' {kd : Nat} {g : Bool → Bool} : FnK (fun x y f => leI kd y x fun b => vB (g b) f) := fun x y f q h => by
  obtain ⟨b, h⟩ := leI_k h; exact vB_k h
theorem cmpE_k {kd : Nat} {g : Bool → Bool} : FnK (fun x y f => eqI kd x y fun b => vB (g b) f) := fun x y f q h => by
  obtain ⟨b, h⟩ := eqI_k h; exact vB_k h
theorem minmax_k {kd : Nat} {g h' : V → V → V} : FnK (fun x y f => leI kd x y fun b => bs b (f (g x y)) (f (h' x y))) := fun x y f q h => by
  obtain ⟨b, h⟩ := leI_k h
  exact bs_k h (fun h => ⟨_, h⟩) fun h => ⟨_, h⟩
theorem by3_k {n : Nat} {k : Bool → Res} {q : V × St} (h : by3 n k = some q) : ∃ b, k b = some q := by
  cases n with
  | zero => exact ⟨_, h⟩
  | succ n => cases n with
    | zero => exact ⟨_, h⟩
    | succ n => cases h
theorem bool_k {v : V} {y n : Res} {q : V × St} {G : Prop} (h : bool v y n = some q) (h1 : y = some q → G) (h2 : n = some q → G) : G := by
  unfold bool at h
  cases ht : v.t with
  | zero => rw [ht] at h; exact h2 h
  | succ t => cases t with
    | zero => rw [ht] at h; exact h1 h
    | succ t => rw [ht] at h; cases h
theorem bnd_k {o : Option Od} {e : Env} {d : Nat} {k : Nat → Res} {q : V × St} (ho : OdKO o) (h : bnd o e d k = some q) : ∃ n, k n = some q := by
  cases o with
  | none => exact ⟨_, h⟩
  | some x =>
    obtain ⟨v, h⟩ := ho x rfl _ _ _ (show x e (fun x => chk (Nat.beq x.t 16) (k x.a)) = some q from h)
    exact ⟨_, chk_k h⟩
theorem slAt_k {tg a b l esz len cap : Nat} {s : St} {k : K} {q : V × St} (h : slAt tg a b l esz len cap s k = some q) : ∃ v, k v s = some q := by
  unfold slAt at h; simp only [fN_eq] at h; exact ⟨_, h⟩
theorem aggOr_k {g : Bool} {l : List V} {k : V → Res} {q : V × St} (h : aggOr g l k = some q) : ∃ v, k v = some q := by
  refine bs_k h (fun h => ⟨_, h⟩) fun h => ?_
  unfold one at h
  cases l with
  | nil => cases h
  | cons v l => cases l with
    | nil => exact ⟨_, h⟩
    | cons w l => cases h
theorem load1_k {c : Cell} {o : Nat} {k : V → Res} {q : V × St} (h : load1 c o k = some q) : ∃ v, k v = some q := by
  rw [load1_eq] at h
  split at h
  · obtain ⟨v, _, h⟩ := bind_some.1 h; exact ⟨v, h⟩
  · cases h
theorem loadL_k {c : Cell} {o n : Nat} {k : List V → Res} {q : V × St} (h : loadL c o n k = some q) : ∃ v, k v = some q := by
  obtain ⟨l, h, _⟩ := loadL_some h; exact ⟨l, h⟩
theorem fillP_k : ∀ {ps : List (Nat × Nat)} {vs cells : List V} {k : List V → Res} {q : V × St}, fillP ps vs cells k = some q → ∃ l, k l = some q
  | [], [], cells, k, q, h => ⟨_, h⟩
  | [], _ :: _, cells, k, q, h => by cases h
  | p :: ps, [], cells, k, q, h => by cases h
  | p :: ps, v :: vs, cells, k, q, h => fillP_k (chk_k (chk_k (chk_k (show chk v.plain (chk (Nat.beq v.cells.length p.2) (chk (Nat.ble (Nat.add p.1 p.2) cells.length) (fillP ps vs (putAt cells p.1 v.cells) k))) = some q from h))))
theorem bytesOf_k : ∀ {l : List V} {k : List Nat → Res} {q : V × St}, bytesOf l k = some q → ∃ b, k b = some q
  | [], k, q, h => ⟨_, h⟩
  | v :: l, k, q, h => by
    obtain ⟨b, h⟩ := bytesOf_k (chk_k (chk_k (show chk (Nat.beq v.t 18) (chk (Nat.ble v.a 255) (bytesOf l fun l => k (v.a :: l))) = some q from h)))
    exact ⟨_, h⟩
theorem findKey_k {key : V} {y : V → Res} {n : Res} {q : V × St} {G : Prop} (h1 : ∀ v, y v = some q → G) (h2 : n = some q → G) : ∀ {es : List (V × V)}, findKey key es y n = some q → G
  | [], h => h2 h
  | p :: es, h => by
    obtain ⟨b, h⟩ := by3_k (show by3 (eqFlat key p.1) (fun b => bs b (y p.2) (findKey key es y n)) = some q from h)
    exact bs_k h (h1 _) fun h => findKey_k h1 h2 h

section
variable {x y c : Od}
theorem mv_p (hx : OdK x) : Pure (oMv x) := fun call e s k q h => hx _ _ _ h
theorem pick_p (hc : OdK c) (hx : OdK x) (hy : OdK y) : Pure (oPick c x y) := fun call e s k q h => by
  obtain ⟨v, h⟩ := hc _ _ _ h
  exact bool_k h (fun h => hx _ _ _ h) fun h => hy _ _ _ h
theorem load1_p (hx : OdK x) : Pure (oLoad1 x) := fun call e s k q h => by
  obtain ⟨v, h⟩ := hx _ _ _ h
  exact load1_k (chk_k h)
theorem loadN_p {n : Nat} (hx : OdK x) : Pure (oLoadN n x) := fun call e s k q h => by
  obtain ⟨v, h⟩ := hx _ _ _ h
  obtain ⟨l, h⟩ := loadL_k (chk_k h); exact ⟨_, h⟩
theorem nilchk_p (hx : OdK x) : Pure (oNilchk x) := fun call e s k q h => by
  obtain ⟨v, h⟩ := hx _ _ _ h
  exact ⟨_, chk_k h⟩
theorem build_p {z : List V} {ps : List (Nat × Nat)} {xs : List Od} (hx : ∀ e k q, evL xs e k = some q → ∃ l, k l = some q) : Pure (oBuild z ps xs) := fun call e s k q h => by
  obtain ⟨l, h⟩ := hx _ _ _ h
  obtain ⟨l, h⟩ := fillP_k h
  rw [normK_eq] at h; exact ⟨_, h⟩
theorem bS_p {f : List Nat → List Nat → Bool} (hx : OdK x) (hy : OdK y) : Pure (bS f x y) := fun call e s k q h => by
  obtain ⟨v, h⟩ := hx _ _ _ h
  obtain ⟨u, h⟩ := hy _ _ _ h
  exact vB_k (chk_k (chk_k h))
theorem cat_p (hx : OdK x) (hy : OdK y) : Pure (oCat x y) := fun call e s k q h => by
  obtain ⟨v, h⟩ := hx _ _ _ h
  obtain ⟨u, h⟩ := hy _ _ _ h
  have h := chk_k (chk_k (chk_k h))
  rw [fS_eq] at h; exact ⟨_, h⟩
theorem bB_p {f : Bool → Bool} (hx : OdK x) (hy : OdK y) : Pure (bB f x y) := fun call e s k q h => by
  obtain ⟨v, h⟩ := hx _ _ _ h
  obtain ⟨u, h⟩ := hy _ _ _ h
  exact vB_k (chk_k (chk_k h))
theorem bG_p {f : Bool → Bool} {kcs : List Nat} (hx : OdK x) (hy : OdK y) : Pure (bG f kcs x y) := fun call e s k q h => by
  obtain ⟨v, h⟩ := hx _ _ _ h
  obtain ⟨u, h⟩ := hy _ _ _ h
  obtain ⟨b, h⟩ := by3_k (chk_k (chk_k h))
  exact vB_k h
theorem bN_p {f : Bool → Bool} {a b : Nat} (hx : OdK x) : Pure (bN f a b x) := fun call e s k q h => by
  obtain ⟨v, h⟩ := hx _ _ _ h
  exact bs_k h vB_k fun h => vB_k (chk_k h)
theorem not_p (hx : OdK x) : Pure (oNot x) := fun call e s k q h => by
  obtain ⟨v, h⟩ := hx _ _ _ h
  exact bool_k h (fun h => ⟨_, h⟩) fun h => ⟨_, h⟩
theorem neg_p {kd : Nat} (hx : OdK x) : Pure (oNeg kd x) := fun call e s k q h => by
  obtain ⟨v, h⟩ := hx _ _ _ h
  obtain ⟨a, h⟩ := toI_k h
  exact ofInt_k (f := fun v => k v s) h
theorem convI_p {m kd : Nat} (hx : OdK x) : Pure (oConvI m kd x) := fun call e s k q h => by
  obtain ⟨v, h⟩ := hx _ _ _ h
  have w : ∀ {v : V}, toI m v (fun a => wrapI kd a fun v => k v s) = some q → ∃ v, k v s = some q := fun h => by
    obtain ⟨a, h⟩ := toI_k h
    exact ofInt_k (f := fun v => k v s) h
  exact bs_k h (fun h => bs_k h (fun h => ⟨_, h⟩) w) w
theorem shr_p {kd n : Nat} (hx : OdK x) : Pure (oShr kd n x) := fun call e s k q h => by
  obtain ⟨v, h⟩ := hx _ _ _ h
  have h := chk_k h
  rw [fN_eq] at h; exact ⟨_, h⟩
theorem convS_p (hx : OdK x) : Pure (oConvS x) := fun call e s k q h => by
  obtain ⟨v, h⟩ := hx _ _ _ h
  exact ⟨_, chk_k h⟩
theorem ofBytes_p (hx : OdK x) : Pure (oOfBytes x) := fun call e s k q h => by
  obtain ⟨v, h⟩ := hx _ _ _ h
  refine bs_k h (fun h => ⟨_, h⟩) fun h => ?_
  obtain ⟨l, h⟩ := loadL_k (chk_k h)
  obtain ⟨b, h⟩ := bytesOf_k h
  exact ⟨_, h⟩
theorem mkfn_p {f : Nat} {xs : List Od} (hx : ∀ e k q, evL xs e k = some q → ∃ l, k l = some q) : Pure (oMkfn f xs) := fun call e s k q h => by
  obtain ⟨l, h⟩ := hx _ _ _ h; exact ⟨_, h⟩
theorem lookup_p {kc : Nat} {z : V} {ok : Bool} (hx : OdK x) (hy : OdK y) : Pure (oLookup kc z x y ok) := fun call e s k q h => by
  obtain ⟨v, h⟩ := hx _ _ _ h
  obtain ⟨u, h⟩ := hy _ _ _ h
  have h := chk_k (chk_k (chk_k h))
  refine findKey_k (fun w h => ?_) (fun h => ?_) h
  · exact bs_k h (fun h => ⟨_, h⟩) fun h => ⟨_, h⟩
  · exact bs_k h (fun h => ⟨_, h⟩) fun h => ⟨_, h⟩
theorem sliceS_p {lo hi : Option Od} (hx : OdK x) (hl : OdKO lo) (hh : OdKO hi) : Pure (oSliceS x lo hi) := fun call e s k q h => by
  obtain ⟨v, h⟩ := hx _ _ _ h
  obtain ⟨n, h⟩ := bnd_k hh (chk_k h)
  obtain ⟨m, h⟩ := bnd_k hl h
  have h := chk_k (chk_k h)
  rw [fS_eq] at h; exact ⟨_, h⟩
theorem sliceL_p {esz : Nat} {lo hi : Option Od} (hx : OdK x) (hl : OdKO lo) (hh : OdKO hi) : Pure (oSliceL esz x lo hi) := fun call e s k q h => by
  obtain ⟨v, h⟩ := hx _ _ _ h
  obtain ⟨n, h⟩ := bnd_k hh (chk_k h)
  obtain ⟨m, h⟩ := bnd_k hl h
  exact bs_k (chk_k (chk_k h)) (fun h => ⟨_, h⟩) fun h => slAt_k (chk_k (chk_k h))
theorem slice3_p {esz : Nat} {lo hi : Option Od} (hx : OdK x) (hl : OdKO lo) (hh : OdKO hi) (hy : OdK y) : Pure (oSlice3 esz x lo hi y) := fun call e s k q h => by
  obtain ⟨v, h⟩ := hx _ _ _ h
  obtain ⟨u, h⟩ := hy _ _ _ h
  obtain ⟨n, h⟩ := bnd_k hh (chk_k h)
  obtain ⟨m, h⟩ := bnd_k hl h
  exact slAt_k (chk_k (chk_k (chk_k (chk_k h))))
theorem sliceA_p {esz n : Nat} {lo hi : Option Od} (hx : OdK x) (hl : OdKO lo) (hh : OdKO hi) : Pure (oSliceA esz n x lo hi) := fun call e s k q h => by
  obtain ⟨v, h⟩ := hx _ _ _ h
  obtain ⟨n, h⟩ := bnd_k hh (chk_k h)
  obtain ⟨m, h⟩ := bnd_k hl h
  exact slAt_k (chk_k (chk_k (chk_k h)))
theorem faddr_p {o : Nat} (hx : OdK x) : Pure (oFaddr o x) := fun call e s k q h => by
  obtain ⟨v, h⟩ := hx _ _ _ h
  have h := chk_k h
  rw [fN_eq] at h; exact ⟨_, h⟩
theorem field_p {g : Bool} {o n : Nat} (hx : OdK x) : Pure (oField g o n x) := fun call e s k q h => by
  obtain ⟨v, h⟩ := hx _ _ _ h
  have h := chk_k (chk_k h)
  rw [normK_eq] at h
  exact aggOr_k (k := fun v => k v s) h
theorem iaddrL_p {esz : Nat} (hx : OdK x) (hy : OdK y) : Pure (oIaddrL esz x y) := fun call e s k q h => by
  obtain ⟨v, h⟩ := hx _ _ _ h
  obtain ⟨u, h⟩ := hy _ _ _ h
  have h := chk_k (chk_k (chk_k h))
  rw [fN_eq] at h; exact ⟨_, h⟩
theorem iaddrA_p {n esz : Nat} (hx : OdK x) (hy : OdK y) : Pure (oIaddrA n esz x y) := fun call e s k q h => by
  obtain ⟨v, h⟩ := hx _ _ _ h
  obtain ⟨u, h⟩ := hy _ _ _ h
  have h := chk_k (chk_k (chk_k h))
  rw [fN_eq] at h; exact ⟨_, h⟩
theorem indexS_p (hx : OdK x) (hy : OdK y) : Pure (oIndexS x y) := fun call e s k q h => by
  obtain ⟨v, h⟩ := hx _ _ _ h
  obtain ⟨u, h⟩ := hy _ _ _ h
  have h := chk_k (chk_k h)
  rw [nth_eq] at h
  obtain ⟨c, _, h⟩ := bind_some.1 h; exact ⟨_, h⟩
theorem indexA_p {n esz : Nat} {g : Bool} (hx : OdK x) (hy : OdK y) : Pure (oIndexA n esz g x y) := fun call e s k q h => by
  obtain ⟨v, h⟩ := hx _ _ _ h
  obtain ⟨u, h⟩ := hy _ _ _ h
  have h := chk_k (chk_k (chk_k (chk_k h)))
  rw [normK_eq] at h
  exact aggOr_k (k := fun v => k v s) h
theorem extract_p {i : Nat} (hx : OdK x) : Pure (oExtract x i) := fun call e s k q h => by
  obtain ⟨v, h⟩ := hx _ _ _ h
  have h := chk_k h
  rw [nthV_eq] at h
  obtain ⟨c, _, h⟩ := bind_some.1 h; exact ⟨_, h⟩
theorem lenS_p (hx : OdK x) : Pure (oLenS x) := fun call e s k q h => by
  obtain ⟨v, h⟩ := hx _ _ _ h
  have h := chk_k h
  rw [fN_eq] at h; exact ⟨_, h⟩
theorem lenL_p (hx : OdK x) : Pure (oLenL x) := fun call e s k q h => by
  obtain ⟨v, h⟩ := hx _ _ _ h
  exact ⟨_, chk_k h⟩
theorem lenC_p {n : Nat} : Pure (oLenC n x) := fun call e s k q h => ⟨_, h⟩
theorem lenM_p (hx : OdK x) : Pure (oLenM x) := fun call e s k q h => by
  obtain ⟨v, h⟩ := hx _ _ _ h
  have h := chk_k (chk_k h)
  rw [fN_eq] at h; exact ⟨_, h⟩
theorem cap_p (hx : OdK x) : Pure (oCap x) := fun call e s k q h => by
  obtain ⟨v, h⟩ := hx _ _ _ h
  exact bs_k h (fun h => ⟨_, h⟩) fun h => ⟨_, chk_k h⟩
end

section
variable {P : Program} {A : Al}
theorem compBin_pure (op : BinOp) (t : TypeId) (x y : Operand) : Pure (compBin P A op t x y) := by
  unfold compBin
  cases P.underlying t with
  | none => cases op <;> exact pure_bad _
  | some d =>
    cases d with
    | int kd =>
      cases op with
      | add => exact p2 fun x y hx hy => bI_pure (addI_k _) hx hy
      | sub => exact p2 fun x y hx hy => bI_pure (subI_k _) hx hy
      | mul => exact p2 fun x y hx hy => bI_pure (mulI_k _) hx hy
      | quo => exact p2 fun x y hx hy => bI_pure (quoI_k _) hx hy
      | rem => exact p2 fun x y hx hy => bI_pure (remI_k _) hx hy
      | lss => exact p2 fun x y hx hy => bI_pure (cmp_k' (g := nB)) hx hy
      | leq => exact p2 fun x y hx hy => bI_pure (cmp_k (g := fun b => b)) hx hy
      | gtr => exact p2 fun x y hx hy => bI_pure (cmp_k (g := nB)) hx hy
      | geq => exact p2 fun x y hx hy => bI_pure (cmp_k' (g := fun b => b)) hx hy
      | eql => exact p2 fun x y hx hy => bI_pure (cmpE_k (g := fun b => b)) hx hy
      | neq => exact p2 fun x y hx hy => bI_pure (cmpE_k (g := nB)) hx hy
      | _ => exact pure_bad _
    | string =>
      cases op with
      | add => exact p2 fun x y hx hy => cat_p hx hy
      | eql => exact p2 fun x y hx hy => bS_p hx hy
      | neq => exact p2 fun x y hx hy => bS_p hx hy
      | lss => exact p2 fun x y hx hy => bS_p hx hy
      | leq => exact p2 fun x y hx hy => bS_p hx hy
      | gtr => exact p2 fun x y hx hy => bS_p hx hy
      | geq => exact p2 fun x y hx hy => bS_p hx hy
      | _ => exact pure_bad _
    | bool =>
      cases op with
      | eql => exact p2 fun x y hx hy => bB_p hx hy
      | neq => exact p2 fun x y hx hy => bB_p hx hy
      | _ => exact pure_bad _
    | struct fs =>
      cases op with
      | eql => dsimp only; cases flatEq P t fs with | none => exact pure_bad _ | some k => exact p2 fun x y hx hy => bG_p hx hy
      | neq => dsimp only; cases flatEq P t fs with | none => exact pure_bad _ | some k => exact p2 fun x y hx hy => bG_p hx hy
      | _ => exact pure_bad _
    | pointer _ =>
      cases op with
      | eql => dsimp only; split; exact p1 fun x hx => bN_p hx; exact pure_bad _
      | neq => dsimp only; split; exact p1 fun x hx => bN_p hx; exact pure_bad _
      | _ => exact pure_bad _
    | slice _ =>
      cases op with
      | eql => dsimp only; split; exact p1 fun x hx => bN_p hx; exact pure_bad _
      | neq => dsimp only; split; exact p1 fun x hx => bN_p hx; exact pure_bad _
      | _ => exact pure_bad _
    | _ => cases op <;> exact pure_bad _

theorem compOp_pure (o : Oper) (h : clsOf o.op = 0) : Pure (compOp P A o) := by
  unfold compOp
  cases ho : o.op with
  | move x => exact p1 fun x hx => mv_p hx
  | assign x => exact p1 fun x hx => mv_p hx
  | pick c a b => exact p1 fun c hc => p2 fun x y hx hy => pick_p hc hx hy
  | build t parts =>
    dsimp only
    split <;> first
      | exact pure_bad _
      | (split <;> first | exact pure_bad _ | exact pL fun xs hx => build_p hx)
  | load t a =>
    dsimp only
    split <;> first | exact pure_bad _ | exact p1 fun x hx => loadN_p hx | exact p1 fun x hx => load1_p hx
  | nilCheck x => exact p1 fun x hx => nilchk_p hx
  | binOp op t x y u =>
    have plain : Pure (compBin P A op t x y) := compBin_pure _ _ _ _
    cases op with
    | shr =>
      cases y with
      | const v => cases v with
        | int k' n => cases n with
          | ofNat n =>
            dsimp only
            cases P.underlying t with
            | none => exact pure_bad _
            | some d => cases d with
              | int kd => dsimp only; split; exact p1 fun x hx => shr_p hx; exact pure_bad _
              | _ => exact pure_bad _
          | negSucc n => exact plain
        | _ => exact plain
      | _ => exact plain
    | _ => exact plain
  | unOp op t x =>
    cases op with
    | not => exact p1 fun x hx => not_p hx
    | neg => dsimp only; split <;> first | exact pure_bad _ | exact p1 fun x hx => neg_p hx
    | _ => exact pure_bad _
  | convert src dst x =>
    dsimp only
    split <;> first
      | exact pure_bad _
      | exact p1 fun x hx => convI_p hx
      | exact p1 fun x hx => convS_p hx
      | (split <;> first | exact pure_bad _ | (split <;> first | exact pure_bad _ | exact p1 fun x hx => ofBytes_p hx))
  | makeFunc fn first cap =>
    cases fn with
    | func f => dsimp only; split <;> first | exact pure_bad _ | exact pL fun xs hx => mkfn_p hx
    | _ => exact pure_bad _
  | lookup t m k ok =>
    dsimp only
    split <;> first
      | exact pure_bad _
      | (split <;> first | exact pure_bad _ | exact p2 fun x y hx hy => lookup_p hx hy)
  | slice t x lo hi mx =>
    dsimp only
    split <;> first
      | exact pure_bad _
      | exact p1 fun x hx => pO fun lo hl => pO fun hi hh => sliceS_p hx hl hh
      | (split <;> first
          | exact pure_bad _
          | exact p1 fun x hx => pO fun lo hl => pO fun hi hh => sliceL_p hx hl hh
          | exact p1 fun x hx => pO fun lo hl => pO fun hi hh => p1 fun y hy => slice3_p hx hl hh hy
          | exact p1 fun x hx => pO fun lo hl => pO fun hi hh => sliceA_p hx hl hh)
  | fieldAddr s x f =>
    dsimp only
    split <;> first | exact pure_bad _ | (split <;> first | exact pure_bad _ | (split <;> first | exact pure_bad _ | exact p1 fun x hx => faddr_p hx))
  | field s x f =>
    dsimp only
    split <;> first | exact pure_bad _ | (split <;> first | exact pure_bad _ | (split <;> first | exact pure_bad _ | exact p1 fun x hx => field_p hx))
  | indexAddr t x i =>
    dsimp only
    split <;> first | exact pure_bad _ | (split <;> first | exact pure_bad _ | exact p2 fun x y hx hy => iaddrA_p hx hy | exact p2 fun x y hx hy => iaddrL_p hx hy)
  | index t x i =>
    dsimp only
    split <;> first
      | exact pure_bad _
      | exact p2 fun x y hx hy => indexS_p hx hy
      | (split <;> first
          | exact pure_bad _
          | exact p2 fun x y hx hy => indexA_p hx hy
          | (split <;> first | exact pure_bad _ | exact p2 fun x y hx hy => indexA_p hx hy))
  | extract x i => exact p1 fun x hx => extract_p hx
  | call c =>
    dsimp only
    rw [ho] at h
    cases hc : c.callee with
    | value x => simp [clsOf, hc] at h
    | invoke _ _ => exact pure_bad _
    | builtin b =>
      cases b with
      | len =>
        dsimp only
        split <;> first
          | exact pure_bad _
          | exact p1 fun x hx => lenS_p hx
          | exact p1 fun x hx => lenL_p hx
          | exact p1 fun x hx => lenC_p
          | exact p1 fun x hx => lenM_p hx
          | (split <;> first | exact pure_bad _ | exact p1 fun x hx => lenC_p)
      | cap => dsimp only; split <;> first | exact pure_bad _ | exact p1 fun x hx => cap_p hx
      | min =>
        dsimp only
        split <;> first | exact pure_bad _ | (split <;> first | exact pure_bad _ | exact p2 fun x y hx hy => bI_pure (minmax_k (g := fun x _ => x) (h' := fun _ y => y)) hx hy)
      | max =>
        dsimp only
        split <;> first | exact pure_bad _ | (split <;> first | exact pure_bad _ | exact p2 fun x y hx hy => bI_pure (minmax_k (g := fun _ y => y) (h' := fun x _ => x)) hx hy)
      | append => simp [clsOf, hc] at h
      | _ => exact pure_bad _
  | alloc _ => rw [ho] at h; cases h
  | box _ _ => rw [ho] at h; cases h
  | buildSlice _ _ _ => rw [ho] at h; cases h
  | makeSlice _ _ _ => rw [ho] at h; cases h
  | store _ _ _ => rw [ho] at h; cases h
  | mapUpdate _ _ _ _ => rw [ho] at h; cases h
  | insert _ _ _ _ => rw [ho] at h; cases h
  | makeMap _ _ => rw [ho] at h; cases h
  | _ => exact pure_bad _
end
end Go.Lm
