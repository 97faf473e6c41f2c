/- Plain functions: how they are put together. No program is in sight. -/
namespace Go.PL
def FU : Nat := 18446744073709551616
def Cn (x : Int) : Prop := -9223372036854775808 ≤ x ∧ x ≤ 9223372036854775807
instance (x : Int) : Decidable (Cn x) := inferInstanceAs (Decidable (_ ∧ _))
section
variable {α β γ : Type}
def gd (c : Prop) [Decidable c] (x : Option α) : Option α := if c then x else none
theorem AF {c : Prop} [Decidable c] {x : Option α} {r : α} (h : gd c x = some r) : c ∧ x = some r := by
  unfold gd at h
  split at h
  · rename_i hc; exact ⟨hc, h⟩
  · cases h
theorem R5 {c : Prop} [Decidable c] {x : Option α} (h : c) : gd c x = x := if_pos h
def bv (a : α) (f : α → Option β) : Option β := f a
theorem BI {a : α} {f : α → Option β} {r : β} (h : bv a f = some r) : ∃ x, x = a ∧ f x = some r := ⟨a, rfl, h⟩
def ix (xs : List α) (i : Int) (f : α → Option β) : Option β := if 0 ≤ i then match xs[i.toNat]? with | some x => f x | none => none else none
theorem BG {xs : List α} {i : Int} {f : α → Option β} {r : β} (h : ix xs i f = some r) : ∃ x, (0 ≤ i ∧ i < xs.length) ∧ xs[i.toNat]? = some x ∧ f x = some r := by
  unfold ix at h
  split at h
  · split at h
    · rename_i h0 _ x hx
      have := (List.getElem?_eq_some_iff.1 hx).1
      exact ⟨x, ⟨h0, by omega⟩, hx, h⟩
    · cases h
  · cases h
theorem A2 {c : Prop} [Decidable c] {x y : Option α} {r : α} (h : (if c then x else y) = some r) (hc : c) : x = some r := by rwa [if_pos hc] at h
theorem A3 {c : Prop} [Decidable c] {x y : Option α} {r : α} (h : (if c then x else y) = some r) (hc : ¬ c) : y = some r := by rwa [if_neg hc] at h
theorem bt {b : Bool} {x y : Option α} {r : α} (h : (if b = true then x else y) = some r) (hc : b = true) : x = some r := by rwa [if_pos hc] at h
theorem bf {b : Bool} {x y : Option α} {r : α} (h : (if b = true then x else y) = some r) (hc : b = false) : y = some r := by subst hc; exact h
end
def b0 {ρ : Type} (o : Option (Unit)) (f : Option ρ) : Option ρ := match o with | none => none | some () => f 
theorem IK {ρ : Type} {o : Option (Unit)} {f : Option ρ} {r : ρ} (h : b0 o f = some r) : o = some () ∧ f  = some r := by
  cases o with
  | none => cases h
  | some p => exact ⟨rfl, h⟩
@[simp] theorem SX {ρ : Type} {f : Option ρ}  : b0 (some ()) f = f  := rfl
def b1 {aa ρ : Type} (o : Option (aa)) (f : aa → Option ρ) : Option ρ := match o with | none => none | some x0 => f x0
theorem Az {aa ρ : Type} {o : Option (aa)} {f : aa → Option ρ} {r : ρ} (h : b1 o f = some r) : ∃ x0, o = some x0 ∧ f x0 = some r := by
  cases o with
  | none => cases h
  | some p => exact ⟨_, rfl, h⟩
@[simp] theorem S4 {aa ρ : Type} {f : aa → Option ρ} {x0 : aa} : b1 (some x0) f = f x0 := rfl
def b2 {aa ab ρ : Type} (o : Option (aa × ab)) (f : aa → ab → Option ρ) : Option ρ := match o with | none => none | some (x0, x1) => f x0 x1
theorem Ca {aa ab ρ : Type} {o : Option (aa × ab)} {f : aa → ab → Option ρ} {r : ρ} (h : b2 o f = some r) : ∃ x0 x1, o = some (x0, x1) ∧ f x0 x1 = some r := by
  cases o with
  | none => cases h
  | some p => exact ⟨_, _, rfl, h⟩
@[simp] theorem S3 {aa ab ρ : Type} {f : aa → ab → Option ρ} {x0 : aa} {x1 : ab} : b2 (some (x0, x1)) f = f x0 x1 := rfl
def b3 {aa ab ad ρ : Type} (o : Option (aa × ab × ad)) (f : aa → ab → ad → Option ρ) : Option ρ := match o with | none => none | some (x0, x1, x2) => f x0 x1 x2
theorem N7 {aa ab ad ρ : Type} {o : Option (aa × ab × ad)} {f : aa → ab → ad → Option ρ} {r : ρ} (h : b3 o f = some r) : ∃ x0 x1 x2, o = some (x0, x1, x2) ∧ f x0 x1 x2 = some r := by
  cases o with
  | none => cases h
  | some p => exact ⟨_, _, _, rfl, h⟩
@[simp] theorem S1 {aa ab ad ρ : Type} {f : aa → ab → ad → Option ρ} {x0 : aa} {x1 : ab} {x2 : ad} : b3 (some (x0, x1, x2)) f = f x0 x1 x2 := rfl
def b4 {aa ab ad ae ρ : Type} (o : Option (aa × ab × ad × ae)) (f : aa → ab → ad → ae → Option ρ) : Option ρ := match o with | none => none | some (x0, x1, x2, x3) => f x0 x1 x2 x3
theorem RM {aa ab ad ae ρ : Type} {o : Option (aa × ab × ad × ae)} {f : aa → ab → ad → ae → Option ρ} {r : ρ} (h : b4 o f = some r) : ∃ x0 x1 x2 x3, o = some (x0, x1, x2, x3) ∧ f x0 x1 x2 x3 = some r := by
  cases o with
  | none => cases h
  | some p => exact ⟨_, _, _, _, rfl, h⟩
@[simp] theorem S0 {aa ab ad ae ρ : Type} {f : aa → ab → ad → ae → Option ρ} {x0 : aa} {x1 : ab} {x2 : ad} {x3 : ae} : b4 (some (x0, x1, x2, x3)) f = f x0 x1 x2 x3 := rfl
def b5 {aa ab ad ae ah ρ : Type} (o : Option (aa × ab × ad × ae × ah)) (f : aa → ab → ad → ae → ah → Option ρ) : Option ρ := match o with | none => none | some (x0, x1, x2, x3, x4) => f x0 x1 x2 x3 x4
theorem Ez {aa ab ad ae ah ρ : Type} {o : Option (aa × ab × ad × ae × ah)} {f : aa → ab → ad → ae → ah → Option ρ} {r : ρ} (h : b5 o f = some r) : ∃ x0 x1 x2 x3 x4, o = some (x0, x1, x2, x3, x4) ∧ f x0 x1 x2 x3 x4 = some r := by
  cases o with
  | none => cases h
  | some p => exact ⟨_, _, _, _, _, rfl, h⟩
@[simp] theorem S2 {aa ab ad ae ah ρ : Type} {f : aa → ab → ad → ae → ah → Option ρ} {x0 : aa} {x1 : ab} {x2 : ad} {x3 : ae} {x4 : ah} : b5 (some (x0, x1, x2, x3, x4)) f = f x0 x1 x2 x3 x4 := rfl
def b6 {aa ab ad ae ah ai ρ : Type} (o : Option (aa × ab × ad × ae × ah × ai)) (f : aa → ab → ad → ae → ah → ai → Option ρ) : Option ρ := match o with | none => none | some (x0, x1, x2, x3, x4, x5) => f x0 x1 x2 x3 x4 x5
theorem RY {aa ab ad ae ah ai ρ : Type} {o : Option (aa × ab × ad × ae × ah × ai)} {f : aa → ab → ad → ae → ah → ai → Option ρ} {r : ρ} (h : b6 o f = some r) : ∃ x0 x1 x2 x3 x4 x5, o = some (x0, x1, x2, x3, x4, x5) ∧ f x0 x1 x2 x3 x4 x5 = some r := by
  cases o with
  | none => cases h
  | some p => exact ⟨_, _, _, _, _, _, rfl, h⟩
@[simp] theorem SW {aa ab ad ae ah ai ρ : Type} {f : aa → ab → ad → ae → ah → ai → Option ρ} {x0 : aa} {x1 : ab} {x2 : ad} {x3 : ae} {x4 : ah} {x5 : ai} : b6 (some (x0, x1, x2, x3, x4, x5)) f = f x0 x1 x2 x3 x4 x5 := rfl
def b7 {aa ab ad ae ah ai aj ρ : Type} (o : Option (aa × ab × ad × ae × ah × ai × aj)) (f : aa → ab → ad → ae → ah → ai → aj → Option ρ) : Option ρ := match o with | none => none | some (x0, x1, x2, x3, x4, x5, x6) => f x0 x1 x2 x3 x4 x5 x6
@[simp] theorem SV {aa ab ad ae ah ai aj ρ : Type} {f : aa → ab → ad → ae → ah → ai → aj → Option ρ} {x0 : aa} {x1 : ab} {x2 : ad} {x3 : ae} {x4 : ah} {x5 : ai} {x6 : aj} : b7 (some (x0, x1, x2, x3, x4, x5, x6)) f = f x0 x1 x2 x3 x4 x5 x6 := rfl
def b8 {aa ab ad ae ah ai aj ak ρ : Type} (o : Option (aa × ab × ad × ae × ah × ai × aj × ak)) (f : aa → ab → ad → ae → ah → ai → aj → ak → Option ρ) : Option ρ := match o with | none => none | some (x0, x1, x2, x3, x4, x5, x6, x7) => f x0 x1 x2 x3 x4 x5 x6 x7
@[simp] theorem SZ {aa ab ad ae ah ai aj ak ρ : Type} {f : aa → ab → ad → ae → ah → ai → aj → ak → Option ρ} {x0 : aa} {x1 : ab} {x2 : ad} {x3 : ae} {x4 : ah} {x5 : ai} {x6 : aj} {x7 : ak} : b8 (some (x0, x1, x2, x3, x4, x5, x6, x7)) f = f x0 x1 x2 x3 x4 x5 x6 x7 := rfl
def b9 {aa ab ad ae ah ai aj ak al ρ : Type} (o : Option (aa × ab × ad × ae × ah × ai × aj × ak × al)) (f : aa → ab → ad → ae → ah → ai → aj → ak → al → Option ρ) : Option ρ := match o with | none => none | some (x0, x1, x2, x3, x4, x5, x6, x7, x8) => f x0 x1 x2 x3 x4 x5 x6 x7 x8
@[simp] theorem SY {aa ab ad ae ah ai aj ak al ρ : Type} {f : aa → ab → ad → ae → ah → ai → aj → ak → al → Option ρ} {x0 : aa} {x1 : ab} {x2 : ad} {x3 : ae} {x4 : ah} {x5 : ai} {x6 : aj} {x7 : ak} {x8 : al} : b9 (some (x0, x1, x2, x3, x4, x5, x6, x7, x8)) f = f x0 x1 x2 x3 x4 x5 x6 x7 x8 := rfl
def N4 {aa ab ad ae ah ai aj ak al ao ρ : Type} (o : Option (aa × ab × ad × ae × ah × ai × aj × ak × al × ao)) (f : aa → ab → ad → ae → ah → ai → aj → ak → al → ao → Option ρ) : Option ρ := match o with | none => none | some (x0, x1, x2, x3, x4, x5, x6, x7, x8, x9) => f x0 x1 x2 x3 x4 x5 x6 x7 x8 x9
@[simp] theorem SB {aa ab ad ae ah ai aj ak al ao ρ : Type} {f : aa → ab → ad → ae → ah → ai → aj → ak → al → ao → Option ρ} {x0 : aa} {x1 : ab} {x2 : ad} {x3 : ae} {x4 : ah} {x5 : ai} {x6 : aj} {x7 : ak} {x8 : al} {x9 : ao} : N4 (some (x0, x1, x2, x3, x4, x5, x6, x7, x8, x9)) f = f x0 x1 x2 x3 x4 x5 x6 x7 x8 x9 := rfl
def RS {ab ad ae ah ai aj ak al ao aq aa ρ : Type} (o : Option (ab × ad × ae × ah × ai × aj × ak × al × ao × aq × aa)) (f : ab → ad → ae → ah → ai → aj → ak → al → ao → aq → aa → Option ρ) : Option ρ := match o with | none => none | some (x0, x1, x2, x3, x4, x5, x6, x7, x8, x9, ar) => f x0 x1 x2 x3 x4 x5 x6 x7 x8 x9 ar
theorem Si {ab ad ae ah ai aj ak al ao aq aa ρ : Type} {o : Option (ab × ad × ae × ah × ai × aj × ak × al × ao × aq × aa)} {f : ab → ad → ae → ah → ai → aj → ak → al → ao → aq → aa → Option ρ} {r : ρ} (h : RS o f = some r) : ∃ x0 x1 x2 x3 x4 x5 x6 x7 x8 x9 ar, o = some (x0, x1, x2, x3, x4, x5, x6, x7, x8, x9, ar) ∧ f x0 x1 x2 x3 x4 x5 x6 x7 x8 x9 ar = some r := by
  cases o with
  | none => cases h
  | some p => exact ⟨_, _, _, _, _, _, _, _, _, _, _, rfl, h⟩
@[simp] theorem SK {ab ad ae ah ai aj ak al ao aq aa ρ : Type} {f : ab → ad → ae → ah → ai → aj → ak → al → ao → aq → aa → Option ρ} {x0 : ab} {x1 : ad} {x2 : ae} {x3 : ah} {x4 : ai} {x5 : aj} {x6 : ak} {x7 : al} {x8 : ao} {x9 : aq} {ar : aa} : RS (some (x0, x1, x2, x3, x4, x5, x6, x7, x8, x9, ar)) f = f x0 x1 x2 x3 x4 x5 x6 x7 x8 x9 ar := rfl
def S7 {ad ae ah ai aj ak al ao aq ar aa ab ρ : Type} (o : Option (ad × ae × ah × ai × aj × ak × al × ao × aq × ar × aa × ab)) (f : ad → ae → ah → ai → aj → ak → al → ao → aq → ar → aa → ab → Option ρ) : Option ρ := match o with | none => none | some (x0, x1, x2, x3, x4, x5, x6, x7, x8, x9, au, av) => f x0 x1 x2 x3 x4 x5 x6 x7 x8 x9 au av
@[simp] theorem SD {ad ae ah ai aj ak al ao aq ar aa ab ρ : Type} {f : ad → ae → ah → ai → aj → ak → al → ao → aq → ar → aa → ab → Option ρ} {x0 : ad} {x1 : ae} {x2 : ah} {x3 : ai} {x4 : aj} {x5 : ak} {x6 : al} {x7 : ao} {x8 : aq} {x9 : ar} {au : aa} {av : ab} : S7 (some (x0, x1, x2, x3, x4, x5, x6, x7, x8, x9, au, av)) f = f x0 x1 x2 x3 x4 x5 x6 x7 x8 x9 au av := rfl
def N9 (k : Nat) (x y : Int) : Int := (BitVec.ofInt k x &&& BitVec.ofInt k y).toNat
def shl (x y : Int) : Int := x * 2 ^ y.toNat
def shr (x y : Int) : Int := x / 2 ^ y.toNat
def LU {κ δ : Type} [DecidableEq κ] (m : List (κ × δ)) (k : κ) : Option δ := (m.find? fun p => p.1 = k).map (·.2)
def M4 {κ δ : Type} [DecidableEq κ] : List (κ × δ) → κ → δ → List (κ × δ)
  | [], k, v => [(k, v)]
  | p :: m, k, v => if p.1 = k then (k, v) :: m else p :: M4 m k v
section
variable {α β : Type}
def ap (xs ys : List α) (f : List α → Option β) : Option β := if (xs ++ ys).length ≤ 1048576 then f (xs ++ ys) else none
theorem Ea {xs ys : List α} {f : List α → Option β} {r : β} (h : ap xs ys f = some r) : ∃ zs, zs = xs ++ ys ∧ zs.length ≤ 1048576 ∧ f zs = some r := by
  unfold ap at h
  split at h
  · rename_i hc; exact ⟨_, rfl, hc, h⟩
  · cases h
def sl (xs : List α) (l h : Int) : List α := (xs.take h.toNat).drop l.toNat
def Sw (xs ys : List α) : List α := ys.take xs.length ++ xs.drop ys.length
theorem DX (b : Bool) : b = true ∨ b = false := by cases b <;> simp
def B0 (k0 N k : Int) (m : Nat) : Prop := k0 ≤ k ∧ (k + m = N ∨ (m = 0 ∧ N ≤ k))
theorem B0.start (k0 N : Int) : B0 k0 N k0 (Int.toNat (N - k0)) := ⟨Int.le_refl _, by omega⟩
theorem B0.succ {k0 N k : Int} {m : Nat} (h : B0 k0 N k m) (c : k < N) : ∃ m', m = m' + 1 ∧ B0 k0 N (k + 1) m' := by
  obtain ⟨h1, h2⟩ := h
  exact ⟨m - 1, by omega, by omega, by omega⟩
theorem B0.zero {k0 N k : Int} {m : Nat} (h : B0 k0 N k m) (c : ¬ k < N) : 0 = m := by
  obtain ⟨h1, h2⟩ := h; omega
theorem B0.CE {k0 N k : Int} {m : Nat} (h : B0 k0 N k m) (c : k < N) (g : Cn k0 ∧ Cn N) : Cn (k + 1) := by
  obtain ⟨h1, h2⟩ := h; unfold Cn at *; omega
def Bq (xs : List α) (k : Int) (aa : List α) : Prop := ∃ pre, xs = pre ++ aa ∧ k = pre.length
theorem Bq.start (xs : List α) : Bq xs 0 xs := ⟨[], rfl, rfl⟩
theorem Bq.succ {xs : List α} {k : Int} {aa : List α} (h : Bq xs k aa) (c : k < (xs.length : Int)) : ∃ x tl, aa = x :: tl ∧ xs[k.toNat]? = some x ∧ (0 ≤ k ∧ k < (xs.length : Int)) ∧ Bq xs (k + 1) tl := by
  obtain ⟨pre, rfl, rfl⟩ := h
  cases aa with
  | nil => simp at c
  | cons x tl => exact ⟨x, tl, rfl, by simp, ⟨by omega, c⟩, pre ++ [x], by simp, by simp⟩
theorem Bq.zero {xs : List α} {k : Int} {aa : List α} (h : Bq xs k aa) (c : ¬ k < (xs.length : Int)) : [] = aa := by
  obtain ⟨pre, rfl, rfl⟩ := h
  cases aa with
  | nil => rfl
  | cons x tl => simp at c; omega
theorem Bq.CE {xs : List α} {k : Int} {aa : List α} (h : Bq xs k aa) (c : k < (xs.length : Int)) (g : (xs.length : Int) ≤ 9223372036854775807) : Cn (k + 1) := by
  obtain ⟨pre, rfl, rfl⟩ := h
  unfold Cn; omega
end
theorem AL {aa : Type} {x0 y0 : aa} (h : some x0 = some y0) : x0 = y0 := by cases h; exact rfl
theorem Cd {aa ab : Type} {x0 y0 : aa} {x1 y1 : ab} (h : some (x0, x1) = some (y0, y1)) : x0 = y0 ∧ x1 = y1 := by cases h; exact ⟨rfl, rfl⟩
theorem Na {aa ab ad : Type} {x0 y0 : aa} {x1 y1 : ab} {x2 y2 : ad} (h : some (x0, x1, x2) = some (y0, y1, y2)) : x0 = y0 ∧ x1 = y1 ∧ x2 = y2 := by cases h; exact ⟨rfl, rfl, rfl⟩
theorem Rs {aa ab ad ae : Type} {x0 y0 : aa} {x1 y1 : ab} {x2 y2 : ad} {x3 y3 : ae} (h : some (x0, x1, x2, x3) = some (y0, y1, y2, y3)) : x0 = y0 ∧ x1 = y1 ∧ x2 = y2 ∧ x3 = y3 := by cases h; exact ⟨rfl, rfl, rfl, rfl⟩
theorem Ru {aa ab ad ae ah : Type} {x0 y0 : aa} {x1 y1 : ab} {x2 y2 : ad} {x3 y3 : ae} {x4 y4 : ah} (h : some (x0, x1, x2, x3, x4) = some (y0, y1, y2, y3, y4)) : x0 = y0 ∧ x1 = y1 ∧ x2 = y2 ∧ x3 = y3 ∧ x4 = y4 := by cases h; exact ⟨rfl, rfl, rfl, rfl, rfl⟩
theorem Pj {aa ab ad ae ah ai : Type} {x0 y0 : aa} {x1 y1 : ab} {x2 y2 : ad} {x3 y3 : ae} {x4 y4 : ah} {x5 y5 : ai} (h : some (x0, x1, x2, x3, x4, x5) = some (y0, y1, y2, y3, y4, y5)) : x0 = y0 ∧ x1 = y1 ∧ x2 = y2 ∧ x3 = y3 ∧ x4 = y4 ∧ x5 = y5 := by cases h; exact ⟨rfl, rfl, rfl, rfl, rfl, rfl⟩
theorem Kg {ae ah ai aj ak al ao aq ar au aa : Type} {x0 y0 : ae} {x1 y1 : ah} {x2 y2 : ai} {x3 y3 : aj} {x4 y4 : ak} {x5 y5 : al} {x6 y6 : ao} {x7 y7 : aq} {x8 y8 : ar} {x9 y9 : au} {ab ad : aa} (h : some (x0, x1, x2, x3, x4, x5, x6, x7, x8, x9, ab) = some (y0, y1, y2, y3, y4, y5, y6, y7, y8, y9, ad)) : x0 = y0 ∧ x1 = y1 ∧ x2 = y2 ∧ x3 = y3 ∧ x4 = y4 ∧ x5 = y5 ∧ x6 = y6 ∧ x7 = y7 ∧ x8 = y8 ∧ x9 = y9 ∧ ab = ad := by cases h; exact ⟨rfl, rfl, rfl, rfl, rfl, rfl, rfl, rfl, rfl, rfl, rfl⟩
def Oq {α : Type} [DecidableEq α] (c : Prop) [Decidable c] (x y : Option α) : Option α := if c then (if x = y then x else none) else y
theorem Qf {α : Type} [DecidableEq α] {c : Prop} [Decidable c] {x y : Option α} {r : α} (h : Oq c x y = some r) (hc : c) : x = some r := by
  unfold Oq at h; rw [if_pos hc] at h
  split at h
  · exact h
  · cases h
theorem Qm {α : Type} [DecidableEq α] {c : Prop} [Decidable c] {x y : Option α} {r : α} (h : Oq c x y = some r) : y = some r := by
  unfold Oq at h
  split at h
  · split at h
    · rename_i h2; rw [← h2]; exact h
    · cases h
  · exact h
def yl {α : Type} (x : α) (o : Option (List α)) : Option (List α) := match o with | none => none | some l => some (x :: l)
theorem SP {α : Type} {x : α} {o : Option (List α)} {r : List α} (h : yl x o = some r) : ∃ tl, o = some tl ∧ r = x :: tl := by
  cases o with
  | none => cases h
  | some l => exact ⟨l, rfl, (Option.some.inj h).symm⟩
end Go.PL
