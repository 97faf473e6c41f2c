/- Plain functions: how they are put together. No program is in sight. -/
namespace Go.PL
def FU : Nat := 18446744073709551616
def R64 (x : Int) : Prop := -9223372036854775808 ≤ x ∧ x ≤ 9223372036854775807
instance (x : Int) : Decidable (R64 x) := inferInstanceAs (Decidable (_ ∧ _))
section
variable {α β γ : Type}
def gd (c : Prop) [Decidable c] (x : Option α) : Option α := if c then x else none
theorem gd_ok {c : Prop} [Decidable c] {x : Option α} {r : α} (h : gd c x = some r) : c ∧ x = some r := by
  unfold gd at h
  split at h
  · rename_i hc; exact ⟨hc, h⟩
  · cases h
theorem gd_t {c : Prop} [Decidable c] {x : Option α} (h : c) : gd c x = x := if_pos h
def bv (a : α) (f : α → Option β) : Option β := f a
theorem bv_ok {a : α} {f : α → Option β} {r : β} (h : bv a f = some r) : ∃ x, x = a ∧ f x = some r := ⟨a, rfl, h⟩
def ix (xs : List α) (i : Int) (f : α → Option β) : Option β := if 0 ≤ i then match xs[i.toNat]? with | some x => f x | none => none else none
theorem ix_ok {xs : List α} {i : Int} {f : α → Option β} {r : β} (h : ix xs i f = some r) : ∃ x, (0 ≤ i ∧ i < xs.length) ∧ xs[i.toNat]? = some x ∧ f x = some r := by
  unfold ix at h
  split at h
  · split at h
    · rename_i h0 _ x hx
      have := (List.getElem?_eq_some_iff.1 hx).1
      exact ⟨x, ⟨h0, by omega⟩, hx, h⟩
    · cases h
  · cases h
theorem ix_t {xs : List α} {i : Int} {f : α → Option β} {x : α} (h0 : 0 ≤ i) (h : xs[i.toNat]? = some x) : ix xs i f = f x := by
  unfold ix; rw [if_pos h0, h]
theorem ite_t {c : Prop} [Decidable c] {x y : Option α} {r : α} (h : (if c then x else y) = some r) (hc : c) : x = some r := by rwa [if_pos hc] at h
theorem ite_f {c : Prop} [Decidable c] {x y : Option α} {r : α} (h : (if c then x else y) = some r) (hc : ¬ c) : y = some r := by rwa [if_neg hc] at h
theorem bt {b : Bool} {x y : Option α} {r : α} (h : (if b = true then x else y) = some r) (hc : b = true) : x = some r := by rwa [if_pos hc] at h
theorem bf {b : Bool} {x y : Option α} {r : α} (h : (if b = true then x else y) = some r) (hc : b = false) : y = some r := by subst hc; exact h
end
def b0 {ρ : Type} (o : Option (Unit)) (f : Option ρ) : Option ρ := match o with | none => none | some () => f 
@[simp] theorem b0_some {ρ : Type} {f : Option ρ}  : b0 (some ()) f = f  := rfl
def b1 {τ0 ρ : Type} (o : Option (τ0)) (f : τ0 → Option ρ) : Option ρ := match o with | none => none | some x0 => f x0
theorem b1_ok {τ0 ρ : Type} {o : Option (τ0)} {f : τ0 → Option ρ} {r : ρ} (h : b1 o f = some r) : ∃ x0, o = some x0 ∧ f x0 = some r := by
  cases o with
  | none => cases h
  | some p => exact ⟨_, rfl, h⟩
@[simp] theorem b1_some {τ0 ρ : Type} {f : τ0 → Option ρ} {x0 : τ0} : b1 (some x0) f = f x0 := rfl
def b2 {τ0 τ1 ρ : Type} (o : Option (τ0 × τ1)) (f : τ0 → τ1 → Option ρ) : Option ρ := match o with | none => none | some (x0, x1) => f x0 x1
theorem b2_ok {τ0 τ1 ρ : Type} {o : Option (τ0 × τ1)} {f : τ0 → τ1 → Option ρ} {r : ρ} (h : b2 o f = some r) : ∃ x0 x1, o = some (x0, x1) ∧ f x0 x1 = some r := by
  cases o with
  | none => cases h
  | some p => exact ⟨_, _, rfl, h⟩
@[simp] theorem b2_some {τ0 τ1 ρ : Type} {f : τ0 → τ1 → Option ρ} {x0 : τ0} {x1 : τ1} : b2 (some (x0, x1)) f = f x0 x1 := rfl
def b3 {τ0 τ1 τ2 ρ : Type} (o : Option (τ0 × τ1 × τ2)) (f : τ0 → τ1 → τ2 → Option ρ) : Option ρ := match o with | none => none | some (x0, x1, x2) => f x0 x1 x2
theorem b3_ok {τ0 τ1 τ2 ρ : Type} {o : Option (τ0 × τ1 × τ2)} {f : τ0 → τ1 → τ2 → Option ρ} {r : ρ} (h : b3 o f = some r) : ∃ x0 x1 x2, o = some (x0, x1, x2) ∧ f x0 x1 x2 = some r := by
  cases o with
  | none => cases h
  | some p => exact ⟨_, _, _, rfl, h⟩
@[simp] theorem b3_some {τ0 τ1 τ2 ρ : Type} {f : τ0 → τ1 → τ2 → Option ρ} {x0 : τ0} {x1 : τ1} {x2 : τ2} : b3 (some (x0, x1, x2)) f = f x0 x1 x2 := rfl
def b4 {τ0 τ1 τ2 τ3 ρ : Type} (o : Option (τ0 × τ1 × τ2 × τ3)) (f : τ0 → τ1 → τ2 → τ3 → Option ρ) : Option ρ := match o with | none => none | some (x0, x1, x2, x3) => f x0 x1 x2 x3
theorem b4_ok {τ0 τ1 τ2 τ3 ρ : Type} {o : Option (τ0 × τ1 × τ2 × τ3)} {f : τ0 → τ1 → τ2 → τ3 → Option ρ} {r : ρ} (h : b4 o f = some r) : ∃ x0 x1 x2 x3, o = some (x0, x1, x2, x3) ∧ f x0 x1 x2 x3 = some r := by
  cases o with
  | none => cases h
  | some p => exact ⟨_, _, _, _, rfl, h⟩
@[simp] theorem b4_some {τ0 τ1 τ2 τ3 ρ : Type} {f : τ0 → τ1 → τ2 → τ3 → Option ρ} {x0 : τ0} {x1 : τ1} {x2 : τ2} {x3 : τ3} : b4 (some (x0, x1, x2, x3)) f = f x0 x1 x2 x3 := rfl
def b5 {τ0 τ1 τ2 τ3 τ4 ρ : Type} (o : Option (τ0 × τ1 × τ2 × τ3 × τ4)) (f : τ0 → τ1 → τ2 → τ3 → τ4 → Option ρ) : Option ρ := match o with | none => none | some (x0, x1, x2, x3, x4) => f x0 x1 x2 x3 x4
theorem b5_ok {τ0 τ1 τ2 τ3 τ4 ρ : Type} {o : Option (τ0 × τ1 × τ2 × τ3 × τ4)} {f : τ0 → τ1 → τ2 → τ3 → τ4 → Option ρ} {r : ρ} (h : b5 o f = some r) : ∃ x0 x1 x2 x3 x4, o = some (x0, x1, x2, x3, x4) ∧ f x0 x1 x2 x3 x4 = some r := by
  cases o with
  | none => cases h
  | some p => exact ⟨_, _, _, _, _, rfl, h⟩
@[simp] theorem b5_some {τ0 τ1 τ2 τ3 τ4 ρ : Type} {f : τ0 → τ1 → τ2 → τ3 → τ4 → Option ρ} {x0 : τ0} {x1 : τ1} {x2 : τ2} {x3 : τ3} {x4 : τ4} : b5 (some (x0, x1, x2, x3, x4)) f = f x0 x1 x2 x3 x4 := rfl
def b6 {τ0 τ1 τ2 τ3 τ4 τ5 ρ : Type} (o : Option (τ0 × τ1 × τ2 × τ3 × τ4 × τ5)) (f : τ0 → τ1 → τ2 → τ3 → τ4 → τ5 → Option ρ) : Option ρ := match o with | none => none | some (x0, x1, x2, x3, x4, x5) => f x0 x1 x2 x3 x4 x5
@[simp] theorem b6_some {τ0 τ1 τ2 τ3 τ4 τ5 ρ : Type} {f : τ0 → τ1 → τ2 → τ3 → τ4 → τ5 → Option ρ} {x0 : τ0} {x1 : τ1} {x2 : τ2} {x3 : τ3} {x4 : τ4} {x5 : τ5} : b6 (some (x0, x1, x2, x3, x4, x5)) f = f x0 x1 x2 x3 x4 x5 := rfl
def b7 {τ0 τ1 τ2 τ3 τ4 τ5 τ6 ρ : Type} (o : Option (τ0 × τ1 × τ2 × τ3 × τ4 × τ5 × τ6)) (f : τ0 → τ1 → τ2 → τ3 → τ4 → τ5 → τ6 → Option ρ) : Option ρ := match o with | none => none | some (x0, x1, x2, x3, x4, x5, x6) => f x0 x1 x2 x3 x4 x5 x6
theorem b7_ok {τ0 τ1 τ2 τ3 τ4 τ5 τ6 ρ : Type} {o : Option (τ0 × τ1 × τ2 × τ3 × τ4 × τ5 × τ6)} {f : τ0 → τ1 → τ2 → τ3 → τ4 → τ5 → τ6 → Option ρ} {r : ρ} (h : b7 o f = some r) : ∃ x0 x1 x2 x3 x4 x5 x6, o = some (x0, x1, x2, x3, x4, x5, x6) ∧ f x0 x1 x2 x3 x4 x5 x6 = some r := by
  cases o with
  | none => cases h
  | some p => exact ⟨_, _, _, _, _, _, _, rfl, h⟩
@[simp] theorem b7_some {τ0 τ1 τ2 τ3 τ4 τ5 τ6 ρ : Type} {f : τ0 → τ1 → τ2 → τ3 → τ4 → τ5 → τ6 → Option ρ} {x0 : τ0} {x1 : τ1} {x2 : τ2} {x3 : τ3} {x4 : τ4} {x5 : τ5} {x6 : τ6} : b7 (some (x0, x1, x2, x3, x4, x5, x6)) f = f x0 x1 x2 x3 x4 x5 x6 := rfl
def b8 {τ0 τ1 τ2 τ3 τ4 τ5 τ6 τ7 ρ : Type} (o : Option (τ0 × τ1 × τ2 × τ3 × τ4 × τ5 × τ6 × τ7)) (f : τ0 → τ1 → τ2 → τ3 → τ4 → τ5 → τ6 → τ7 → Option ρ) : Option ρ := match o with | none => none | some (x0, x1, x2, x3, x4, x5, x6, x7) => f x0 x1 x2 x3 x4 x5 x6 x7
theorem b8_ok {τ0 τ1 τ2 τ3 τ4 τ5 τ6 τ7 ρ : Type} {o : Option (τ0 × τ1 × τ2 × τ3 × τ4 × τ5 × τ6 × τ7)} {f : τ0 → τ1 → τ2 → τ3 → τ4 → τ5 → τ6 → τ7 → Option ρ} {r : ρ} (h : b8 o f = some r) : ∃ x0 x1 x2 x3 x4 x5 x6 x7, o = some (x0, x1, x2, x3, x4, x5, x6, x7) ∧ f x0 x1 x2 x3 x4 x5 x6 x7 = some r := by
  cases o with
  | none => cases h
  | some p => exact ⟨_, _, _, _, _, _, _, _, rfl, h⟩
@[simp] theorem b8_some {τ0 τ1 τ2 τ3 τ4 τ5 τ6 τ7 ρ : Type} {f : τ0 → τ1 → τ2 → τ3 → τ4 → τ5 → τ6 → τ7 → Option ρ} {x0 : τ0} {x1 : τ1} {x2 : τ2} {x3 : τ3} {x4 : τ4} {x5 : τ5} {x6 : τ6} {x7 : τ7} : b8 (some (x0, x1, x2, x3, x4, x5, x6, x7)) f = f x0 x1 x2 x3 x4 x5 x6 x7 := rfl
def b9 {τ0 τ1 τ2 τ3 τ4 τ5 τ6 τ7 τ8 ρ : Type} (o : Option (τ0 × τ1 × τ2 × τ3 × τ4 × τ5 × τ6 × τ7 × τ8)) (f : τ0 → τ1 → τ2 → τ3 → τ4 → τ5 → τ6 → τ7 → τ8 → Option ρ) : Option ρ := match o with | none => none | some (x0, x1, x2, x3, x4, x5, x6, x7, x8) => f x0 x1 x2 x3 x4 x5 x6 x7 x8
@[simp] theorem b9_some {τ0 τ1 τ2 τ3 τ4 τ5 τ6 τ7 τ8 ρ : Type} {f : τ0 → τ1 → τ2 → τ3 → τ4 → τ5 → τ6 → τ7 → τ8 → Option ρ} {x0 : τ0} {x1 : τ1} {x2 : τ2} {x3 : τ3} {x4 : τ4} {x5 : τ5} {x6 : τ6} {x7 : τ7} {x8 : τ8} : b9 (some (x0, x1, x2, x3, x4, x5, x6, x7, x8)) f = f x0 x1 x2 x3 x4 x5 x6 x7 x8 := rfl
def b10 {τ0 τ1 τ2 τ3 τ4 τ5 τ6 τ7 τ8 τ9 ρ : Type} (o : Option (τ0 × τ1 × τ2 × τ3 × τ4 × τ5 × τ6 × τ7 × τ8 × τ9)) (f : τ0 → τ1 → τ2 → τ3 → τ4 → τ5 → τ6 → τ7 → τ8 → τ9 → Option ρ) : Option ρ := match o with | none => none | some (x0, x1, x2, x3, x4, x5, x6, x7, x8, x9) => f x0 x1 x2 x3 x4 x5 x6 x7 x8 x9
@[simp] theorem b10_some {τ0 τ1 τ2 τ3 τ4 τ5 τ6 τ7 τ8 τ9 ρ : Type} {f : τ0 → τ1 → τ2 → τ3 → τ4 → τ5 → τ6 → τ7 → τ8 → τ9 → Option ρ} {x0 : τ0} {x1 : τ1} {x2 : τ2} {x3 : τ3} {x4 : τ4} {x5 : τ5} {x6 : τ6} {x7 : τ7} {x8 : τ8} {x9 : τ9} : b10 (some (x0, x1, x2, x3, x4, x5, x6, x7, x8, x9)) f = f x0 x1 x2 x3 x4 x5 x6 x7 x8 x9 := rfl
def b11 {τ0 τ1 τ2 τ3 τ4 τ5 τ6 τ7 τ8 τ9 τ10 ρ : Type} (o : Option (τ0 × τ1 × τ2 × τ3 × τ4 × τ5 × τ6 × τ7 × τ8 × τ9 × τ10)) (f : τ0 → τ1 → τ2 → τ3 → τ4 → τ5 → τ6 → τ7 → τ8 → τ9 → τ10 → Option ρ) : Option ρ := match o with | none => none | some (x0, x1, x2, x3, x4, x5, x6, x7, x8, x9, x10) => f x0 x1 x2 x3 x4 x5 x6 x7 x8 x9 x10
@[simp] theorem b11_some {τ0 τ1 τ2 τ3 τ4 τ5 τ6 τ7 τ8 τ9 τ10 ρ : Type} {f : τ0 → τ1 → τ2 → τ3 → τ4 → τ5 → τ6 → τ7 → τ8 → τ9 → τ10 → Option ρ} {x0 : τ0} {x1 : τ1} {x2 : τ2} {x3 : τ3} {x4 : τ4} {x5 : τ5} {x6 : τ6} {x7 : τ7} {x8 : τ8} {x9 : τ9} {x10 : τ10} : b11 (some (x0, x1, x2, x3, x4, x5, x6, x7, x8, x9, x10)) f = f x0 x1 x2 x3 x4 x5 x6 x7 x8 x9 x10 := rfl
def b12 {τ0 τ1 τ2 τ3 τ4 τ5 τ6 τ7 τ8 τ9 τ10 τ11 ρ : Type} (o : Option (τ0 × τ1 × τ2 × τ3 × τ4 × τ5 × τ6 × τ7 × τ8 × τ9 × τ10 × τ11)) (f : τ0 → τ1 → τ2 → τ3 → τ4 → τ5 → τ6 → τ7 → τ8 → τ9 → τ10 → τ11 → Option ρ) : Option ρ := match o with | none => none | some (x0, x1, x2, x3, x4, x5, x6, x7, x8, x9, x10, x11) => f x0 x1 x2 x3 x4 x5 x6 x7 x8 x9 x10 x11
@[simp] theorem b12_some {τ0 τ1 τ2 τ3 τ4 τ5 τ6 τ7 τ8 τ9 τ10 τ11 ρ : Type} {f : τ0 → τ1 → τ2 → τ3 → τ4 → τ5 → τ6 → τ7 → τ8 → τ9 → τ10 → τ11 → Option ρ} {x0 : τ0} {x1 : τ1} {x2 : τ2} {x3 : τ3} {x4 : τ4} {x5 : τ5} {x6 : τ6} {x7 : τ7} {x8 : τ8} {x9 : τ9} {x10 : τ10} {x11 : τ11} : b12 (some (x0, x1, x2, x3, x4, x5, x6, x7, x8, x9, x10, x11)) f = f x0 x1 x2 x3 x4 x5 x6 x7 x8 x9 x10 x11 := rfl
def bor (x y : Int) : Int := (BitVec.ofInt 64 x ||| BitVec.ofInt 64 y).toInt
def bandn (x y : Int) : Int := (BitVec.ofInt 64 x &&& ~~~ BitVec.ofInt 64 y).toInt
def bandK (k : Nat) (x y : Int) : Int := (BitVec.ofInt k x &&& BitVec.ofInt k y).toNat
def bxorK (k : Nat) (x y : Int) : Int := (BitVec.ofInt k x ^^^ BitVec.ofInt k y).toNat
def shl (x y : Int) : Int := x * 2 ^ y.toNat
def shr (x y : Int) : Int := x / 2 ^ y.toNat
def mget {κ δ : Type} [DecidableEq κ] (m : List (κ × δ)) (k : κ) : Option δ := (m.find? fun p => p.1 = k).map (·.2)
def mput {κ δ : Type} [DecidableEq κ] : List (κ × δ) → κ → δ → List (κ × δ)
  | [], k, v => [(k, v)]
  | p :: m, k, v => if p.1 = k then (k, v) :: m else p :: mput m k v
theorem mget_mput {κ δ : Type} [DecidableEq κ] (m : List (κ × δ)) (k k' : κ) (v : δ) : mget (mput m k v) k' = if k = k' then some v else mget m k' := by
  induction m with
  | nil => by_cases h : k = k' <;> simp [mput, mget, h]
  | cons p m ih =>
    unfold mput
    by_cases h : p.1 = k
    · rw [if_pos h]
      by_cases h2 : k = k'
      · simp [mget, h2]
      · have h3 : ¬ p.1 = k' := by rw [h]; exact h2
        simp [mget, h2, h3]
    · rw [if_neg h]
      by_cases h2 : p.1 = k'
      · have h3 : ¬ k = k' := fun e => h (h2.trans e.symm)
        simp [mget, h2, h3]
      · have e1 : mget (p :: mput m k v) k' = mget (mput m k v) k' := by simp [mget, h2]
        have e2 : mget (p :: m) k' = mget m k' := by simp [mget, h2]
        rw [e1, e2, ih]
theorem mget_nil {κ δ : Type} [DecidableEq κ] (k : κ) : mget ([] : List (κ × δ)) k = none := rfl
section
variable {α β : Type}
def ap (xs ys : List α) (f : List α → Option β) : Option β := if (xs ++ ys).length ≤ 1048576 then f (xs ++ ys) else none
theorem ap_ok {xs ys : List α} {f : List α → Option β} {r : β} (h : ap xs ys f = some r) : ∃ zs, zs = xs ++ ys ∧ zs.length ≤ 1048576 ∧ f zs = some r := by
  unfold ap at h
  split at h
  · rename_i hc; exact ⟨_, rfl, hc, h⟩
  · cases h
theorem ap_t {xs ys : List α} {f : List α → Option β} (h : (xs ++ ys).length ≤ 1048576) : ap xs ys f = f (xs ++ ys) := if_pos h
def sl (xs : List α) (l h : Int) : List α := (xs.take h.toNat).drop l.toNat
def cpy (xs ys : List α) : List α := ys.take xs.length ++ xs.drop ys.length
theorem bool_two (b : Bool) : b = true ∨ b = false := by cases b <;> simp
def Ctr (k0 N k : Int) (m : Nat) : Prop := k0 ≤ k ∧ (k + m = N ∨ (m = 0 ∧ N ≤ k))
theorem Ctr.start (k0 N : Int) : Ctr k0 N k0 (Int.toNat (N - k0)) := ⟨Int.le_refl _, by omega⟩
theorem Ctr.succ {k0 N k : Int} {m : Nat} (h : Ctr k0 N k m) (c : k < N) : ∃ m', m = m' + 1 ∧ Ctr k0 N (k + 1) m' := by
  obtain ⟨h1, h2⟩ := h
  exact ⟨m - 1, by omega, by omega, by omega⟩
theorem Ctr.zero {k0 N k : Int} {m : Nat} (h : Ctr k0 N k m) (c : ¬ k < N) : 0 = m := by
  obtain ⟨h1, h2⟩ := h; omega
theorem Ctr.r64 {k0 N k : Int} {m : Nat} (h : Ctr k0 N k m) (c : k < N) (g : R64 k0 ∧ R64 N) : R64 (k + 1) := by
  obtain ⟨h1, h2⟩ := h; unfold R64 at *; omega
def Lst (xs : List α) (k : Int) (suf : List α) : Prop := ∃ pre, xs = pre ++ suf ∧ k = pre.length
theorem Lst.start (xs : List α) : Lst xs 0 xs := ⟨[], rfl, rfl⟩
theorem Lst.succ {xs : List α} {k : Int} {suf : List α} (h : Lst xs k suf) (c : k < (xs.length : Int)) : ∃ x tl, suf = x :: tl ∧ xs[k.toNat]? = some x ∧ (0 ≤ k ∧ k < (xs.length : Int)) ∧ Lst xs (k + 1) tl := by
  obtain ⟨pre, rfl, rfl⟩ := h
  cases suf with
  | nil => simp at c
  | cons x tl => exact ⟨x, tl, rfl, by simp, ⟨by omega, c⟩, pre ++ [x], by simp, by simp⟩
theorem Lst.zero {xs : List α} {k : Int} {suf : List α} (h : Lst xs k suf) (c : ¬ k < (xs.length : Int)) : [] = suf := by
  obtain ⟨pre, rfl, rfl⟩ := h
  cases suf with
  | nil => rfl
  | cons x tl => simp at c; omega
theorem Lst.r64 {xs : List α} {k : Int} {suf : List α} (h : Lst xs k suf) (c : k < (xs.length : Int)) (g : (xs.length : Int) ≤ 9223372036854775807) : R64 (k + 1) := by
  obtain ⟨pre, rfl, rfl⟩ := h
  unfold R64; omega
end
theorem inj1 {τ0 : Type} {x0 y0 : τ0} (h : some x0 = some y0) : x0 = y0 := by cases h; exact rfl
theorem inj2 {τ0 τ1 : Type} {x0 y0 : τ0} {x1 y1 : τ1} (h : some (x0, x1) = some (y0, y1)) : x0 = y0 ∧ x1 = y1 := by cases h; exact ⟨rfl, rfl⟩
theorem inj3 {τ0 τ1 τ2 : Type} {x0 y0 : τ0} {x1 y1 : τ1} {x2 y2 : τ2} (h : some (x0, x1, x2) = some (y0, y1, y2)) : x0 = y0 ∧ x1 = y1 ∧ x2 = y2 := by cases h; exact ⟨rfl, rfl, rfl⟩
theorem inj4 {τ0 τ1 τ2 τ3 : Type} {x0 y0 : τ0} {x1 y1 : τ1} {x2 y2 : τ2} {x3 y3 : τ3} (h : some (x0, x1, x2, x3) = some (y0, y1, y2, y3)) : x0 = y0 ∧ x1 = y1 ∧ x2 = y2 ∧ x3 = y3 := by cases h; exact ⟨rfl, rfl, rfl, rfl⟩
theorem inj5 {τ0 τ1 τ2 τ3 τ4 : Type} {x0 y0 : τ0} {x1 y1 : τ1} {x2 y2 : τ2} {x3 y3 : τ3} {x4 y4 : τ4} (h : some (x0, x1, x2, x3, x4) = some (y0, y1, y2, y3, y4)) : x0 = y0 ∧ x1 = y1 ∧ x2 = y2 ∧ x3 = y3 ∧ x4 = y4 := by cases h; exact ⟨rfl, rfl, rfl, rfl, rfl⟩
theorem inj7 {τ0 τ1 τ2 τ3 τ4 τ5 τ6 : Type} {x0 y0 : τ0} {x1 y1 : τ1} {x2 y2 : τ2} {x3 y3 : τ3} {x4 y4 : τ4} {x5 y5 : τ5} {x6 y6 : τ6} (h : some (x0, x1, x2, x3, x4, x5, x6) = some (y0, y1, y2, y3, y4, y5, y6)) : x0 = y0 ∧ x1 = y1 ∧ x2 = y2 ∧ x3 = y3 ∧ x4 = y4 ∧ x5 = y5 ∧ x6 = y6 := by cases h; exact ⟨rfl, rfl, rfl, rfl, rfl, rfl, rfl⟩
def nilIf {α : Type} [DecidableEq α] (c : Prop) [Decidable c] (x y : Option α) : Option α := if c then (if x = y then x else none) else y
theorem nilIf_t {α : Type} [DecidableEq α] {c : Prop} [Decidable c] {x y : Option α} {r : α} (h : nilIf c x y = some r) (hc : c) : x = some r := by
  unfold nilIf at h; rw [if_pos hc] at h
  split at h
  · exact h
  · cases h
theorem nilIf_f {α : Type} [DecidableEq α] {c : Prop} [Decidable c] {x y : Option α} {r : α} (h : nilIf c x y = some r) : y = some r := by
  unfold nilIf at h
  split at h
  · split at h
    · rename_i h2; rw [← h2]; exact h
    · cases h
  · exact h
def yl {α : Type} (x : α) (o : Option (List α)) : Option (List α) := match o with | none => none | some l => some (x :: l)
theorem yl_ok {α : Type} {x : α} {o : Option (List α)} {r : List α} (h : yl x o = some r) : ∃ tl, o = some tl ∧ r = x :: tl := by
  cases o with
  | none => cases h
  | some l => exact ⟨l, rfl, (Option.some.inj h).symm⟩
end Go.PL
