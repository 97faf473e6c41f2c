/- Plain functions: how they are put together. No program is in sight. -/
namespace Go.PL
def FU : Nat := 18446744073709551616
def Cl (x : Int) : Prop := -9223372036854775808 ≤ x ∧ x ≤ 9223372036854775807
instance (x : Int) : Decidable (Cl x) := inferInstanceAs (Decidable (_ ∧ _))
section
variable {α β γ : Type}
def gd (c : Prop) [Decidable c] (x : Option α) : Option α := if c then x else none
theorem AX {c : Prop} [Decidable c] {x : Option α} {r : α} (h : gd c x = some r) : c ∧ x = some r := by
  unfold gd at h
  split at h
  · rename_i hc; exact ⟨hc, h⟩
  · cases h
theorem RI {c : Prop} [Decidable c] {x : Option α} (h : c) : gd c x = x := if_pos h
def bv (a : α) (f : α → Option β) : Option β := f a
theorem BS {a : α} {f : α → Option β} {r : β} (h : bv a f = some r) : ∃ x, x = a ∧ f x = some r := ⟨a, rfl, h⟩
def ix (xs : List α) (i : Int) (f : α → Option β) : Option β := if 0 ≤ i then match xs[i.toNat]? with | some x => f x | none => none else none
theorem A7 {xs : List α} {i : Int} {f : α → Option β} {r : β} (h : ix xs i f = some r) : ∃ x, (0 ≤ i ∧ i < xs.length) ∧ xs[i.toNat]? = some x ∧ f x = some r := by
  unfold ix at h
  split at h
  · split at h
    · rename_i h0 _ x hx
      have := (List.getElem?_eq_some_iff.1 hx).1
      exact ⟨x, ⟨h0, by omega⟩, hx, h⟩
    · cases h
  · cases h
theorem AQ {c : Prop} [Decidable c] {x y : Option α} {r : α} (h : (if c then x else y) = some r) (hc : c) : x = some r := by rwa [if_pos hc] at h
theorem AR {c : Prop} [Decidable c] {x y : Option α} {r : α} (h : (if c then x else y) = some r) (hc : ¬ c) : y = some r := by rwa [if_neg hc] at h
theorem bt {b : Bool} {x y : Option α} {r : α} (h : (if b = true then x else y) = some r) (hc : b = true) : x = some r := by rwa [if_pos hc] at h
theorem bf {b : Bool} {x y : Option α} {r : α} (h : (if b = true then x else y) = some r) (hc : b = false) : y = some r := by subst hc; exact h
end
def b0 {ρ : Type} (o : Option (Unit)) (f : Option ρ) : Option ρ := match o with | none => none | some () => f 
theorem Rl {ρ : Type} {o : Option (Unit)} {f : Option ρ} {r : ρ} (h : b0 o f = some r) : o = some () ∧ f  = some r := by
  cases o with
  | none => cases h
  | some p => exact ⟨rfl, h⟩
@[simp] theorem Ry {ρ : Type} {f : Option ρ}  : b0 (some ()) f = f  := rfl
def b1 {a6 ρ : Type} (o : Option (a6)) (f : a6 → Option ρ) : Option ρ := match o with | none => none | some x0 => f x0
theorem AB {a6 ρ : Type} {o : Option (a6)} {f : a6 → Option ρ} {r : ρ} (h : b1 o f = some r) : ∃ x0, o = some x0 ∧ f x0 = some r := by
  cases o with
  | none => cases h
  | some p => exact ⟨_, rfl, h⟩
@[simp] theorem RB {a6 ρ : Type} {f : a6 → Option ρ} {x0 : a6} : b1 (some x0) f = f x0 := rfl
def b2 {a6 aa ρ : Type} (o : Option (a6 × aa)) (f : a6 → aa → Option ρ) : Option ρ := match o with | none => none | some (x0, x1) => f x0 x1
theorem A9 {a6 aa ρ : Type} {o : Option (a6 × aa)} {f : a6 → aa → Option ρ} {r : ρ} (h : b2 o f = some r) : ∃ x0 x1, o = some (x0, x1) ∧ f x0 x1 = some r := by
  cases o with
  | none => cases h
  | some p => exact ⟨_, _, rfl, h⟩
@[simp] theorem Rx {a6 aa ρ : Type} {f : a6 → aa → Option ρ} {x0 : a6} {x1 : aa} : b2 (some (x0, x1)) f = f x0 x1 := rfl
def b3 {a6 aa ab ρ : Type} (o : Option (a6 × aa × ab)) (f : a6 → aa → ab → Option ρ) : Option ρ := match o with | none => none | some (x0, x1, x2) => f x0 x1 x2
theorem I6 {a6 aa ab ρ : Type} {o : Option (a6 × aa × ab)} {f : a6 → aa → ab → Option ρ} {r : ρ} (h : b3 o f = some r) : ∃ x0 x1 x2, o = some (x0, x1, x2) ∧ f x0 x1 x2 = some r := by
  cases o with
  | none => cases h
  | some p => exact ⟨_, _, _, rfl, h⟩
@[simp] theorem Rv {a6 aa ab ρ : Type} {f : a6 → aa → ab → Option ρ} {x0 : a6} {x1 : aa} {x2 : ab} : b3 (some (x0, x1, x2)) f = f x0 x1 x2 := rfl
def b4 {a6 aa ab ad ρ : Type} (o : Option (a6 × aa × ab × ad)) (f : a6 → aa → ab → ad → Option ρ) : Option ρ := match o with | none => none | some (x0, x1, x2, x3) => f x0 x1 x2 x3
theorem GV {a6 aa ab ad ρ : Type} {o : Option (a6 × aa × ab × ad)} {f : a6 → aa → ab → ad → Option ρ} {r : ρ} (h : b4 o f = some r) : ∃ x0 x1 x2 x3, o = some (x0, x1, x2, x3) ∧ f x0 x1 x2 x3 = some r := by
  cases o with
  | none => cases h
  | some p => exact ⟨_, _, _, _, rfl, h⟩
@[simp] theorem Rt {a6 aa ab ad ρ : Type} {f : a6 → aa → ab → ad → Option ρ} {x0 : a6} {x1 : aa} {x2 : ab} {x3 : ad} : b4 (some (x0, x1, x2, x3)) f = f x0 x1 x2 x3 := rfl
def b5 {a6 aa ab ad ae ρ : Type} (o : Option (a6 × aa × ab × ad × ae)) (f : a6 → aa → ab → ad → ae → Option ρ) : Option ρ := match o with | none => none | some (x0, x1, x2, x3, x4) => f x0 x1 x2 x3 x4
@[simp] theorem RD {a6 aa ab ad ae ρ : Type} {f : a6 → aa → ab → ad → ae → Option ρ} {x0 : a6} {x1 : aa} {x2 : ab} {x3 : ad} {x4 : ae} : b5 (some (x0, x1, x2, x3, x4)) f = f x0 x1 x2 x3 x4 := rfl
def b6 {a6 aa ab ad ae ah ρ : Type} (o : Option (a6 × aa × ab × ad × ae × ah)) (f : a6 → aa → ab → ad → ae → ah → Option ρ) : Option ρ := match o with | none => none | some (x0, x1, x2, x3, x4, x5) => f x0 x1 x2 x3 x4 x5
@[simp] theorem Rz {a6 aa ab ad ae ah ρ : Type} {f : a6 → aa → ab → ad → ae → ah → Option ρ} {x0 : a6} {x1 : aa} {x2 : ab} {x3 : ad} {x4 : ae} {x5 : ah} : b6 (some (x0, x1, x2, x3, x4, x5)) f = f x0 x1 x2 x3 x4 x5 := rfl
def b7 {a6 aa ab ad ae ah ai ρ : Type} (o : Option (a6 × aa × ab × ad × ae × ah × ai)) (f : a6 → aa → ab → ad → ae → ah → ai → Option ρ) : Option ρ := match o with | none => none | some (x0, x1, x2, x3, x4, x5, x6) => f x0 x1 x2 x3 x4 x5 x6
@[simp] theorem Ru {a6 aa ab ad ae ah ai ρ : Type} {f : a6 → aa → ab → ad → ae → ah → ai → Option ρ} {x0 : a6} {x1 : aa} {x2 : ab} {x3 : ad} {x4 : ae} {x5 : ah} {x6 : ai} : b7 (some (x0, x1, x2, x3, x4, x5, x6)) f = f x0 x1 x2 x3 x4 x5 x6 := rfl
def b8 {a6 aa ab ad ae ah ai aj ρ : Type} (o : Option (a6 × aa × ab × ad × ae × ah × ai × aj)) (f : a6 → aa → ab → ad → ae → ah → ai → aj → Option ρ) : Option ρ := match o with | none => none | some (x0, x1, x2, x3, x4, x5, x6, x7) => f x0 x1 x2 x3 x4 x5 x6 x7
theorem Rm {a6 aa ab ad ae ah ai aj ρ : Type} {o : Option (a6 × aa × ab × ad × ae × ah × ai × aj)} {f : a6 → aa → ab → ad → ae → ah → ai → aj → Option ρ} {r : ρ} (h : b8 o f = some r) : ∃ x0 x1 x2 x3 x4 x5 x6 x7, o = some (x0, x1, x2, x3, x4, x5, x6, x7) ∧ f x0 x1 x2 x3 x4 x5 x6 x7 = some r := by
  cases o with
  | none => cases h
  | some p => exact ⟨_, _, _, _, _, _, _, _, rfl, h⟩
@[simp] theorem RA {a6 aa ab ad ae ah ai aj ρ : Type} {f : a6 → aa → ab → ad → ae → ah → ai → aj → Option ρ} {x0 : a6} {x1 : aa} {x2 : ab} {x3 : ad} {x4 : ae} {x5 : ah} {x6 : ai} {x7 : aj} : b8 (some (x0, x1, x2, x3, x4, x5, x6, x7)) f = f x0 x1 x2 x3 x4 x5 x6 x7 := rfl
def b9 {a6 aa ab ad ae ah ai aj ak ρ : Type} (o : Option (a6 × aa × ab × ad × ae × ah × ai × aj × ak)) (f : a6 → aa → ab → ad → ae → ah → ai → aj → ak → Option ρ) : Option ρ := match o with | none => none | some (x0, x1, x2, x3, x4, x5, x6, x7, x8) => f x0 x1 x2 x3 x4 x5 x6 x7 x8
theorem Rf {a6 aa ab ad ae ah ai aj ak ρ : Type} {o : Option (a6 × aa × ab × ad × ae × ah × ai × aj × ak)} {f : a6 → aa → ab → ad → ae → ah → ai → aj → ak → Option ρ} {r : ρ} (h : b9 o f = some r) : ∃ x0 x1 x2 x3 x4 x5 x6 x7 x8, o = some (x0, x1, x2, x3, x4, x5, x6, x7, x8) ∧ f x0 x1 x2 x3 x4 x5 x6 x7 x8 = some r := by
  cases o with
  | none => cases h
  | some p => exact ⟨_, _, _, _, _, _, _, _, _, rfl, h⟩
@[simp] theorem RC {a6 aa ab ad ae ah ai aj ak ρ : Type} {f : a6 → aa → ab → ad → ae → ah → ai → aj → ak → Option ρ} {x0 : a6} {x1 : aa} {x2 : ab} {x3 : ad} {x4 : ae} {x5 : ah} {x6 : ai} {x7 : aj} {x8 : ak} : b9 (some (x0, x1, x2, x3, x4, x5, x6, x7, x8)) f = f x0 x1 x2 x3 x4 x5 x6 x7 x8 := rfl
def PK {a6 aa ab ad ae ah ai aj ak al ρ : Type} (o : Option (a6 × aa × ab × ad × ae × ah × ai × aj × ak × al)) (f : a6 → aa → ab → ad → ae → ah → ai → aj → ak → al → Option ρ) : Option ρ := match o with | none => none | some (x0, x1, x2, x3, x4, x5, x6, x7, x8, x9) => f x0 x1 x2 x3 x4 x5 x6 x7 x8 x9
@[simp] theorem Ri {a6 aa ab ad ae ah ai aj ak al ρ : Type} {f : a6 → aa → ab → ad → ae → ah → ai → aj → ak → al → Option ρ} {x0 : a6} {x1 : aa} {x2 : ab} {x3 : ad} {x4 : ae} {x5 : ah} {x6 : ai} {x7 : aj} {x8 : ak} {x9 : al} : PK (some (x0, x1, x2, x3, x4, x5, x6, x7, x8, x9)) f = f x0 x1 x2 x3 x4 x5 x6 x7 x8 x9 := rfl
def KZ {aa ab ad ae ah ai aj ak al ao a6 ρ : Type} (o : Option (aa × ab × ad × ae × ah × ai × aj × ak × al × ao × a6)) (f : aa → ab → ad → ae → ah → ai → aj → ak → al → ao → a6 → Option ρ) : Option ρ := match o with | none => none | some (x0, x1, x2, x3, x4, x5, x6, x7, x8, x9, aq) => f x0 x1 x2 x3 x4 x5 x6 x7 x8 x9 aq
@[simp] theorem Ro {aa ab ad ae ah ai aj ak al ao a6 ρ : Type} {f : aa → ab → ad → ae → ah → ai → aj → ak → al → ao → a6 → Option ρ} {x0 : aa} {x1 : ab} {x2 : ad} {x3 : ae} {x4 : ah} {x5 : ai} {x6 : aj} {x7 : ak} {x8 : al} {x9 : ao} {aq : a6} : KZ (some (x0, x1, x2, x3, x4, x5, x6, x7, x8, x9, aq)) f = f x0 x1 x2 x3 x4 x5 x6 x7 x8 x9 aq := rfl
def Nb {ab ad ae ah ai aj ak al ao aq a6 aa ρ : Type} (o : Option (ab × ad × ae × ah × ai × aj × ak × al × ao × aq × a6 × aa)) (f : ab → ad → ae → ah → ai → aj → ak → al → ao → aq → a6 → aa → Option ρ) : Option ρ := match o with | none => none | some (x0, x1, x2, x3, x4, x5, x6, x7, x8, x9, ar, au) => f x0 x1 x2 x3 x4 x5 x6 x7 x8 x9 ar au
@[simp] theorem Rp {ab ad ae ah ai aj ak al ao aq a6 aa ρ : Type} {f : ab → ad → ae → ah → ai → aj → ak → al → ao → aq → a6 → aa → Option ρ} {x0 : ab} {x1 : ad} {x2 : ae} {x3 : ah} {x4 : ai} {x5 : aj} {x6 : ak} {x7 : al} {x8 : ao} {x9 : aq} {ar : a6} {au : aa} : Nb (some (x0, x1, x2, x3, x4, x5, x6, x7, x8, x9, ar, au)) f = f x0 x1 x2 x3 x4 x5 x6 x7 x8 x9 ar au := rfl
def Ji (x y : Int) : Int := (BitVec.ofInt 64 x &&& BitVec.ofInt 64 y).toInt
def O4 (x y : Int) : Int := (BitVec.ofInt 64 x ||| BitVec.ofInt 64 y).toInt
def OS (x y : Int) : Int := (BitVec.ofInt 64 x &&& ~~~ BitVec.ofInt 64 y).toInt
def shl (x y : Int) : Int := x * 2 ^ y.toNat
def shr (x y : Int) : Int := x / 2 ^ y.toNat
def LD {κ δ : Type} [DecidableEq κ] (m : List (κ × δ)) (k : κ) : Option δ := (m.find? fun p => p.1 = k).map (·.2)
def Pz {κ δ : Type} [DecidableEq κ] : List (κ × δ) → κ → δ → List (κ × δ)
  | [], k, v => [(k, v)]
  | p :: m, k, v => if p.1 = k then (k, v) :: m else p :: Pz m k v
section
variable {α β : Type}
def ap (xs ys : List α) (f : List α → Option β) : Option β := if (xs ++ ys).length ≤ 1048576 then f (xs ++ ys) else none
theorem E0 {xs ys : List α} {f : List α → Option β} {r : β} (h : ap xs ys f = some r) : ∃ zs, zs = xs ++ ys ∧ zs.length ≤ 1048576 ∧ f zs = some r := by
  unfold ap at h
  split at h
  · rename_i hc; exact ⟨_, rfl, hc, h⟩
  · cases h
def sl (xs : List α) (l h : Int) : List α := (xs.take h.toNat).drop l.toNat
def Rw (xs ys : List α) : List α := ys.take xs.length ++ xs.drop ys.length
theorem Bf (b : Bool) : b = true ∨ b = false := by cases b <;> simp
def CZ (k0 N k : Int) (m : Nat) : Prop := k0 ≤ k ∧ (k + m = N ∨ (m = 0 ∧ N ≤ k))
theorem CZ.start (k0 N : Int) : CZ k0 N k0 (Int.toNat (N - k0)) := ⟨Int.le_refl _, by omega⟩
theorem CZ.succ {k0 N k : Int} {m : Nat} (h : CZ k0 N k m) (c : k < N) : ∃ m', m = m' + 1 ∧ CZ k0 N (k + 1) m' := by
  obtain ⟨h1, h2⟩ := h
  exact ⟨m - 1, by omega, by omega, by omega⟩
theorem CZ.zero {k0 N k : Int} {m : Nat} (h : CZ k0 N k m) (c : ¬ k < N) : 0 = m := by
  obtain ⟨h1, h2⟩ := h; omega
theorem CZ.CC {k0 N k : Int} {m : Nat} (h : CZ k0 N k m) (c : k < N) (g : Cl k0 ∧ Cl N) : Cl (k + 1) := by
  obtain ⟨h1, h2⟩ := h; unfold Cl at *; omega
def A8 (xs : List α) (k : Int) (a6 : List α) : Prop := ∃ pre, xs = pre ++ a6 ∧ k = pre.length
theorem A8.start (xs : List α) : A8 xs 0 xs := ⟨[], rfl, rfl⟩
theorem A8.succ {xs : List α} {k : Int} {a6 : List α} (h : A8 xs k a6) (c : k < (xs.length : Int)) : ∃ x tl, a6 = x :: tl ∧ xs[k.toNat]? = some x ∧ (0 ≤ k ∧ k < (xs.length : Int)) ∧ A8 xs (k + 1) tl := by
  obtain ⟨pre, rfl, rfl⟩ := h
  cases a6 with
  | nil => simp at c
  | cons x tl => exact ⟨x, tl, rfl, by simp, ⟨by omega, c⟩, pre ++ [x], by simp, by simp⟩
theorem A8.zero {xs : List α} {k : Int} {a6 : List α} (h : A8 xs k a6) (c : ¬ k < (xs.length : Int)) : [] = a6 := by
  obtain ⟨pre, rfl, rfl⟩ := h
  cases a6 with
  | nil => rfl
  | cons x tl => simp at c; omega
theorem A8.CC {xs : List α} {k : Int} {a6 : List α} (h : A8 xs k a6) (c : k < (xs.length : Int)) (g : (xs.length : Int) ≤ 9223372036854775807) : Cl (k + 1) := by
  obtain ⟨pre, rfl, rfl⟩ := h
  unfold Cl; omega
end
theorem AH {a6 : Type} {x0 y0 : a6} (h : some x0 = some y0) : x0 = y0 := by cases h; exact rfl
theorem BT {a6 aa : Type} {x0 y0 : a6} {x1 y1 : aa} (h : some (x0, x1) = some (y0, y1)) : x0 = y0 ∧ x1 = y1 := by cases h; exact ⟨rfl, rfl⟩
theorem IK {a6 aa ab : Type} {x0 y0 : a6} {x1 y1 : aa} {x2 y2 : ab} (h : some (x0, x1, x2) = some (y0, y1, y2)) : x0 = y0 ∧ x1 = y1 ∧ x2 = y2 := by cases h; exact ⟨rfl, rfl, rfl⟩
theorem Lg {a6 aa ab ad : Type} {x0 y0 : a6} {x1 y1 : aa} {x2 y2 : ab} {x3 y3 : ad} (h : some (x0, x1, x2, x3) = some (y0, y1, y2, y3)) : x0 = y0 ∧ x1 = y1 ∧ x2 = y2 ∧ x3 = y3 := by cases h; exact ⟨rfl, rfl, rfl, rfl⟩
theorem Rn {a6 aa ab ad ae ah ai aj : Type} {x0 y0 : a6} {x1 y1 : aa} {x2 y2 : ab} {x3 y3 : ad} {x4 y4 : ae} {x5 y5 : ah} {x6 y6 : ai} {x7 y7 : aj} (h : some (x0, x1, x2, x3, x4, x5, x6, x7) = some (y0, y1, y2, y3, y4, y5, y6, y7)) : x0 = y0 ∧ x1 = y1 ∧ x2 = y2 ∧ x3 = y3 ∧ x4 = y4 ∧ x5 = y5 ∧ x6 = y6 ∧ x7 = y7 := by cases h; exact ⟨rfl, rfl, rfl, rfl, rfl, rfl, rfl, rfl⟩
theorem Nx {a6 aa ab ad ae ah ai aj ak : Type} {x0 y0 : a6} {x1 y1 : aa} {x2 y2 : ab} {x3 y3 : ad} {x4 y4 : ae} {x5 y5 : ah} {x6 y6 : ai} {x7 y7 : aj} {x8 y8 : ak} (h : some (x0, x1, x2, x3, x4, x5, x6, x7, x8) = some (y0, y1, y2, y3, y4, y5, y6, y7, y8)) : x0 = y0 ∧ x1 = y1 ∧ x2 = y2 ∧ x3 = y3 ∧ x4 = y4 ∧ x5 = y5 ∧ x6 = y6 ∧ x7 = y7 ∧ x8 = y8 := by cases h; exact ⟨rfl, rfl, rfl, rfl, rfl, rfl, rfl, rfl, rfl⟩
def N2 {α : Type} [DecidableEq α] (c : Prop) [Decidable c] (x y : Option α) : Option α := if c then (if x = y then x else none) else y
theorem Py {α : Type} [DecidableEq α] {c : Prop} [Decidable c] {x y : Option α} {r : α} (h : N2 c x y = some r) (hc : c) : x = some r := by
  unfold N2 at h; rw [if_pos hc] at h
  split at h
  · exact h
  · cases h
theorem Pu {α : Type} [DecidableEq α] {c : Prop} [Decidable c] {x y : Option α} {r : α} (h : N2 c x y = some r) : y = some r := by
  unfold N2 at h
  split at h
  · split at h
    · rename_i h2; rw [← h2]; exact h
    · cases h
  · exact h
def yl {α : Type} (x : α) (o : Option (List α)) : Option (List α) := match o with | none => none | some l => some (x :: l)
theorem Rg {α : Type} {x : α} {o : Option (List α)} {r : List α} (h : yl x o = some r) : ∃ tl, o = some tl ∧ r = x :: tl := by
  cases o with
  | none => cases h
  | some l => exact ⟨l, rfl, (Option.some.inj h).symm⟩
end Go.PL
