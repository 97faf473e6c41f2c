/- Plain functions: how they are put together. No program is in sight. -/
namespace Go.PL
def FU : Nat := 18446744073709551616
def Cm (x : Int) : Prop := -9223372036854775808 ≤ x ∧ x ≤ 9223372036854775807
instance (x : Int) : Decidable (Cm x) := inferInstanceAs (Decidable (_ ∧ _))
section
variable {α β γ : Type}
def gd (c : Prop) [Decidable c] (x : Option α) : Option α := if c then x else none
theorem AW {c : Prop} [Decidable c] {x : Option α} {r : α} (h : gd c x = some r) : c ∧ x = some r := by
  unfold gd at h
  split at h
  · rename_i hc; exact ⟨hc, h⟩
  · cases h
theorem BF {c : Prop} [Decidable c] {x : Option α} (h : c) : gd c x = x := if_pos h
def bv (a : α) (f : α → Option β) : Option β := f a
theorem B8 {a : α} {f : α → Option β} {r : β} (h : bv a f = some r) : ∃ x, x = a ∧ f x = some r := ⟨a, rfl, h⟩
def ix (xs : List α) (i : Int) (f : α → Option β) : Option β := if 0 ≤ i then match xs[i.toNat]? with | some x => f x | none => none else none
theorem Bj {xs : List α} {i : Int} {f : α → Option β} {r : β} (h : ix xs i f = some r) : ∃ x, (0 ≤ i ∧ i < xs.length) ∧ xs[i.toNat]? = some x ∧ f x = some r := by
  unfold ix at h
  split at h
  · split at h
    · rename_i h0 _ x hx
      have := (List.getElem?_eq_some_iff.1 hx).1
      exact ⟨x, ⟨h0, by omega⟩, hx, h⟩
    · cases h
  · cases h
theorem Na {xs : List α} {i : Int} {f : α → Option β} {x : α} (h0 : 0 ≤ i) (h : xs[i.toNat]? = some x) : ix xs i f = f x := by
  unfold ix; rw [if_pos h0, h]
theorem AO {c : Prop} [Decidable c] {x y : Option α} {r : α} (h : (if c then x else y) = some r) (hc : c) : x = some r := by rwa [if_pos hc] at h
theorem AP {c : Prop} [Decidable c] {x y : Option α} {r : α} (h : (if c then x else y) = some r) (hc : ¬ c) : y = some r := by rwa [if_neg hc] at h
theorem bt {b : Bool} {x y : Option α} {r : α} (h : (if b = true then x else y) = some r) (hc : b = true) : x = some r := by rwa [if_pos hc] at h
theorem bf {b : Bool} {x y : Option α} {r : α} (h : (if b = true then x else y) = some r) (hc : b = false) : y = some r := by subst hc; exact h
end
def b0 {ρ : Type} (o : Option (Unit)) (f : Option ρ) : Option ρ := match o with | none => none | some () => f 
@[simp] theorem Xy {ρ : Type} {f : Option ρ}  : b0 (some ()) f = f  := rfl
def b1 {aa ρ : Type} (o : Option (aa)) (f : aa → Option ρ) : Option ρ := match o with | none => none | some x0 => f x0
theorem Aw {aa ρ : Type} {o : Option (aa)} {f : aa → Option ρ} {r : ρ} (h : b1 o f = some r) : ∃ x0, o = some x0 ∧ f x0 = some r := by
  cases o with
  | none => cases h
  | some p => exact ⟨_, rfl, h⟩
@[simp] theorem Ax {aa ρ : Type} {f : aa → Option ρ} {x0 : aa} : b1 (some x0) f = f x0 := rfl
def b2 {aa ab ρ : Type} (o : Option (aa × ab)) (f : aa → ab → Option ρ) : Option ρ := match o with | none => none | some (x0, x1) => f x0 x1
theorem Bs {aa ab ρ : Type} {o : Option (aa × ab)} {f : aa → ab → Option ρ} {r : ρ} (h : b2 o f = some r) : ∃ x0 x1, o = some (x0, x1) ∧ f x0 x1 = some r := by
  cases o with
  | none => cases h
  | some p => exact ⟨_, _, rfl, h⟩
@[simp] theorem Dt {aa ab ρ : Type} {f : aa → ab → Option ρ} {x0 : aa} {x1 : ab} : b2 (some (x0, x1)) f = f x0 x1 := rfl
def b3 {aa ab ad ρ : Type} (o : Option (aa × ab × ad)) (f : aa → ab → ad → Option ρ) : Option ρ := match o with | none => none | some (x0, x1, x2) => f x0 x1 x2
theorem Lg {aa ab ad ρ : Type} {o : Option (aa × ab × ad)} {f : aa → ab → ad → Option ρ} {r : ρ} (h : b3 o f = some r) : ∃ x0 x1 x2, o = some (x0, x1, x2) ∧ f x0 x1 x2 = some r := by
  cases o with
  | none => cases h
  | some p => exact ⟨_, _, _, rfl, h⟩
@[simp] theorem Le {aa ab ad ρ : Type} {f : aa → ab → ad → Option ρ} {x0 : aa} {x1 : ab} {x2 : ad} : b3 (some (x0, x1, x2)) f = f x0 x1 x2 := rfl
def b4 {aa ab ad ae ρ : Type} (o : Option (aa × ab × ad × ae)) (f : aa → ab → ad → ae → Option ρ) : Option ρ := match o with | none => none | some (x0, x1, x2, x3) => f x0 x1 x2 x3
@[simp] theorem XE {aa ab ad ae ρ : Type} {f : aa → ab → ad → ae → Option ρ} {x0 : aa} {x1 : ab} {x2 : ad} {x3 : ae} : b4 (some (x0, x1, x2, x3)) f = f x0 x1 x2 x3 := rfl
def b5 {aa ab ad ae af ρ : Type} (o : Option (aa × ab × ad × ae × af)) (f : aa → ab → ad → ae → af → Option ρ) : Option ρ := match o with | none => none | some (x0, x1, x2, x3, x4) => f x0 x1 x2 x3 x4
theorem Rx {aa ab ad ae af ρ : Type} {o : Option (aa × ab × ad × ae × af)} {f : aa → ab → ad → ae → af → Option ρ} {r : ρ} (h : b5 o f = some r) : ∃ x0 x1 x2 x3 x4, o = some (x0, x1, x2, x3, x4) ∧ f x0 x1 x2 x3 x4 = some r := by
  cases o with
  | none => cases h
  | some p => exact ⟨_, _, _, _, _, rfl, h⟩
@[simp] theorem VF {aa ab ad ae af ρ : Type} {f : aa → ab → ad → ae → af → Option ρ} {x0 : aa} {x1 : ab} {x2 : ad} {x3 : ae} {x4 : af} : b5 (some (x0, x1, x2, x3, x4)) f = f x0 x1 x2 x3 x4 := rfl
def b6 {aa ab ad ae af ah ρ : Type} (o : Option (aa × ab × ad × ae × af × ah)) (f : aa → ab → ad → ae → af → ah → Option ρ) : Option ρ := match o with | none => none | some (x0, x1, x2, x3, x4, x5) => f x0 x1 x2 x3 x4 x5
theorem Xc {aa ab ad ae af ah ρ : Type} {o : Option (aa × ab × ad × ae × af × ah)} {f : aa → ab → ad → ae → af → ah → Option ρ} {r : ρ} (h : b6 o f = some r) : ∃ x0 x1 x2 x3 x4 x5, o = some (x0, x1, x2, x3, x4, x5) ∧ f x0 x1 x2 x3 x4 x5 = some r := by
  cases o with
  | none => cases h
  | some p => exact ⟨_, _, _, _, _, _, rfl, h⟩
@[simp] theorem XC {aa ab ad ae af ah ρ : Type} {f : aa → ab → ad → ae → af → ah → Option ρ} {x0 : aa} {x1 : ab} {x2 : ad} {x3 : ae} {x4 : af} {x5 : ah} : b6 (some (x0, x1, x2, x3, x4, x5)) f = f x0 x1 x2 x3 x4 x5 := rfl
def b7 {aa ab ad ae af ah ai ρ : Type} (o : Option (aa × ab × ad × ae × af × ah × ai)) (f : aa → ab → ad → ae → af → ah → ai → Option ρ) : Option ρ := match o with | none => none | some (x0, x1, x2, x3, x4, x5, x6) => f x0 x1 x2 x3 x4 x5 x6
@[simp] theorem Xz {aa ab ad ae af ah ai ρ : Type} {f : aa → ab → ad → ae → af → ah → ai → Option ρ} {x0 : aa} {x1 : ab} {x2 : ad} {x3 : ae} {x4 : af} {x5 : ah} {x6 : ai} : b7 (some (x0, x1, x2, x3, x4, x5, x6)) f = f x0 x1 x2 x3 x4 x5 x6 := rfl
def b8 {aa ab ad ae af ah ai aj ρ : Type} (o : Option (aa × ab × ad × ae × af × ah × ai × aj)) (f : aa → ab → ad → ae → af → ah → ai → aj → Option ρ) : Option ρ := match o with | none => none | some (x0, x1, x2, x3, x4, x5, x6, x7) => f x0 x1 x2 x3 x4 x5 x6 x7
@[simp] theorem Xx {aa ab ad ae af ah ai aj ρ : Type} {f : aa → ab → ad → ae → af → ah → ai → aj → Option ρ} {x0 : aa} {x1 : ab} {x2 : ad} {x3 : ae} {x4 : af} {x5 : ah} {x6 : ai} {x7 : aj} : b8 (some (x0, x1, x2, x3, x4, x5, x6, x7)) f = f x0 x1 x2 x3 x4 x5 x6 x7 := rfl
def b9 {aa ab ad ae af ah ai aj ak ρ : Type} (o : Option (aa × ab × ad × ae × af × ah × ai × aj × ak)) (f : aa → ab → ad → ae → af → ah → ai → aj → ak → Option ρ) : Option ρ := match o with | none => none | some (x0, x1, x2, x3, x4, x5, x6, x7, x8) => f x0 x1 x2 x3 x4 x5 x6 x7 x8
@[simp] theorem XD {aa ab ad ae af ah ai aj ak ρ : Type} {f : aa → ab → ad → ae → af → ah → ai → aj → ak → Option ρ} {x0 : aa} {x1 : ab} {x2 : ad} {x3 : ae} {x4 : af} {x5 : ah} {x6 : ai} {x7 : aj} {x8 : ak} : b9 (some (x0, x1, x2, x3, x4, x5, x6, x7, x8)) f = f x0 x1 x2 x3 x4 x5 x6 x7 x8 := rfl
def LZ {aa ab ad ae af ah ai aj ak ao ρ : Type} (o : Option (aa × ab × ad × ae × af × ah × ai × aj × ak × ao)) (f : aa → ab → ad → ae → af → ah → ai → aj → ak → ao → Option ρ) : Option ρ := match o with | none => none | some (x0, x1, x2, x3, x4, x5, x6, x7, x8, x9) => f x0 x1 x2 x3 x4 x5 x6 x7 x8 x9
theorem WL {aa ab ad ae af ah ai aj ak ao ρ : Type} {o : Option (aa × ab × ad × ae × af × ah × ai × aj × ak × ao)} {f : aa → ab → ad → ae → af → ah → ai → aj → ak → ao → Option ρ} {r : ρ} (h : LZ o f = some r) : ∃ x0 x1 x2 x3 x4 x5 x6 x7 x8 x9, o = some (x0, x1, x2, x3, x4, x5, x6, x7, x8, x9) ∧ f x0 x1 x2 x3 x4 x5 x6 x7 x8 x9 = some r := by
  cases o with
  | none => cases h
  | some p => exact ⟨_, _, _, _, _, _, _, _, _, _, rfl, h⟩
@[simp] theorem Xk {aa ab ad ae af ah ai aj ak ao ρ : Type} {f : aa → ab → ad → ae → af → ah → ai → aj → ak → ao → Option ρ} {x0 : aa} {x1 : ab} {x2 : ad} {x3 : ae} {x4 : af} {x5 : ah} {x6 : ai} {x7 : aj} {x8 : ak} {x9 : ao} : LZ (some (x0, x1, x2, x3, x4, x5, x6, x7, x8, x9)) f = f x0 x1 x2 x3 x4 x5 x6 x7 x8 x9 := rfl
def Yh {ab ad ae af ah ai aj ak ao aq aa ρ : Type} (o : Option (ab × ad × ae × af × ah × ai × aj × ak × ao × aq × aa)) (f : ab → ad → ae → af → ah → ai → aj → ak → ao → aq → aa → Option ρ) : Option ρ := match o with | none => none | some (x0, x1, x2, x3, x4, x5, x6, x7, x8, x9, ar) => f x0 x1 x2 x3 x4 x5 x6 x7 x8 x9 ar
@[simp] theorem Xi {ab ad ae af ah ai aj ak ao aq aa ρ : Type} {f : ab → ad → ae → af → ah → ai → aj → ak → ao → aq → aa → Option ρ} {x0 : ab} {x1 : ad} {x2 : ae} {x3 : af} {x4 : ah} {x5 : ai} {x6 : aj} {x7 : ak} {x8 : ao} {x9 : aq} {ar : aa} : Yh (some (x0, x1, x2, x3, x4, x5, x6, x7, x8, x9, ar)) f = f x0 x1 x2 x3 x4 x5 x6 x7 x8 x9 ar := rfl
def Yr {ad ae af ah ai aj ak ao aq ar aa ab ρ : Type} (o : Option (ad × ae × af × ah × ai × aj × ak × ao × aq × ar × aa × ab)) (f : ad → ae → af → ah → ai → aj → ak → ao → aq → ar → aa → ab → Option ρ) : Option ρ := match o with | none => none | some (x0, x1, x2, x3, x4, x5, x6, x7, x8, x9, au, av) => f x0 x1 x2 x3 x4 x5 x6 x7 x8 x9 au av
@[simp] theorem Xw {ad ae af ah ai aj ak ao aq ar aa ab ρ : Type} {f : ad → ae → af → ah → ai → aj → ak → ao → aq → ar → aa → ab → Option ρ} {x0 : ad} {x1 : ae} {x2 : af} {x3 : ah} {x4 : ai} {x5 : aj} {x6 : ak} {x7 : ao} {x8 : aq} {x9 : ar} {au : aa} {av : ab} : Yr (some (x0, x1, x2, x3, x4, x5, x6, x7, x8, x9, au, av)) f = f x0 x1 x2 x3 x4 x5 x6 x7 x8 x9 au av := rfl
def PC (x y : Int) : Int := (BitVec.ofInt 64 x &&& BitVec.ofInt 64 y).toInt
def Ps (x y : Int) : Int := (BitVec.ofInt 64 x ||| BitVec.ofInt 64 y).toInt
def shl (x y : Int) : Int := x * 2 ^ y.toNat
def shr (x y : Int) : Int := x / 2 ^ y.toNat
def Gi {κ δ : Type} [DecidableEq κ] (m : List (κ × δ)) (k : κ) : Option δ := (m.find? fun p => p.1 = k).map (·.2)
def Mh {κ δ : Type} [DecidableEq κ] : List (κ × δ) → κ → δ → List (κ × δ)
  | [], k, v => [(k, v)]
  | p :: m, k, v => if p.1 = k then (k, v) :: m else p :: Mh m k v
theorem TO {κ δ : Type} [DecidableEq κ] (m : List (κ × δ)) (k k' : κ) (v : δ) : Gi (Mh m k v) k' = if k = k' then some v else Gi m k' := by
  induction m with
  | nil => by_cases h : k = k' <;> simp [Mh, Gi, h]
  | cons p m ih =>
    unfold Mh
    by_cases h : p.1 = k
    · rw [if_pos h]
      by_cases h2 : k = k'
      · simp [Gi, h2]
      · have h3 : ¬ p.1 = k' := by rw [h]; exact h2
        simp [Gi, h2, h3]
    · rw [if_neg h]
      by_cases h2 : p.1 = k'
      · have h3 : ¬ k = k' := fun e => h (h2.trans e.symm)
        simp [Gi, h2, h3]
      · have e1 : Gi (p :: Mh m k v) k' = Gi (Mh m k v) k' := by simp [Gi, h2]
        have e2 : Gi (p :: m) k' = Gi m k' := by simp [Gi, h2]
        rw [e1, e2, ih]
theorem Uz {κ δ : Type} [DecidableEq κ] (k : κ) : Gi ([] : List (κ × δ)) k = none := rfl
section
variable {α β : Type}
def ap (xs ys : List α) (f : List α → Option β) : Option β := if (xs ++ ys).length ≤ 1048576 then f (xs ++ ys) else none
theorem E9 {xs ys : List α} {f : List α → Option β} {r : β} (h : ap xs ys f = some r) : ∃ zs, zs = xs ++ ys ∧ zs.length ≤ 1048576 ∧ f zs = some r := by
  unfold ap at h
  split at h
  · rename_i hc; exact ⟨_, rfl, hc, h⟩
  · cases h
theorem Lp {xs ys : List α} {f : List α → Option β} (h : (xs ++ ys).length ≤ 1048576) : ap xs ys f = f (xs ++ ys) := if_pos h
def sl (xs : List α) (l h : Int) : List α := (xs.take h.toNat).drop l.toNat
def W1 (xs ys : List α) : List α := ys.take xs.length ++ xs.drop ys.length
theorem Bf (b : Bool) : b = true ∨ b = false := by cases b <;> simp
def DD (k0 N k : Int) (m : Nat) : Prop := k0 ≤ k ∧ (k + m = N ∨ (m = 0 ∧ N ≤ k))
theorem DD.start (k0 N : Int) : DD k0 N k0 (Int.toNat (N - k0)) := ⟨Int.le_refl _, by omega⟩
theorem DD.succ {k0 N k : Int} {m : Nat} (h : DD k0 N k m) (c : k < N) : ∃ m', m = m' + 1 ∧ DD k0 N (k + 1) m' := by
  obtain ⟨h1, h2⟩ := h
  exact ⟨m - 1, by omega, by omega, by omega⟩
theorem DD.zero {k0 N k : Int} {m : Nat} (h : DD k0 N k m) (c : ¬ k < N) : 0 = m := by
  obtain ⟨h1, h2⟩ := h; omega
theorem DD.DZ {k0 N k : Int} {m : Nat} (h : DD k0 N k m) (c : k < N) (g : Cm k0 ∧ Cm N) : Cm (k + 1) := by
  obtain ⟨h1, h2⟩ := h; unfold Cm at *; omega
def BO (xs : List α) (k : Int) (aa : List α) : Prop := ∃ pre, xs = pre ++ aa ∧ k = pre.length
theorem BO.start (xs : List α) : BO xs 0 xs := ⟨[], rfl, rfl⟩
theorem BO.succ {xs : List α} {k : Int} {aa : List α} (h : BO xs k aa) (c : k < (xs.length : Int)) : ∃ x tl, aa = x :: tl ∧ xs[k.toNat]? = some x ∧ (0 ≤ k ∧ k < (xs.length : Int)) ∧ BO xs (k + 1) tl := by
  obtain ⟨pre, rfl, rfl⟩ := h
  cases aa with
  | nil => simp at c
  | cons x tl => exact ⟨x, tl, rfl, by simp, ⟨by omega, c⟩, pre ++ [x], by simp, by simp⟩
theorem BO.zero {xs : List α} {k : Int} {aa : List α} (h : BO xs k aa) (c : ¬ k < (xs.length : Int)) : [] = aa := by
  obtain ⟨pre, rfl, rfl⟩ := h
  cases aa with
  | nil => rfl
  | cons x tl => simp at c; omega
theorem BO.DZ {xs : List α} {k : Int} {aa : List α} (h : BO xs k aa) (c : k < (xs.length : Int)) (g : (xs.length : Int) ≤ 9223372036854775807) : Cm (k + 1) := by
  obtain ⟨pre, rfl, rfl⟩ := h
  unfold Cm; omega
end
theorem AH {aa : Type} {x0 y0 : aa} (h : some x0 = some y0) : x0 = y0 := by cases h; exact rfl
theorem BK {aa ab : Type} {x0 y0 : aa} {x1 y1 : ab} (h : some (x0, x1) = some (y0, y1)) : x0 = y0 ∧ x1 = y1 := by cases h; exact ⟨rfl, rfl⟩
theorem Me {aa ab ad : Type} {x0 y0 : aa} {x1 y1 : ab} {x2 y2 : ad} (h : some (x0, x1, x2) = some (y0, y1, y2)) : x0 = y0 ∧ x1 = y1 ∧ x2 = y2 := by cases h; exact ⟨rfl, rfl, rfl⟩
theorem W9 {aa ab ad ae af ah : Type} {x0 y0 : aa} {x1 y1 : ab} {x2 y2 : ad} {x3 y3 : ae} {x4 y4 : af} {x5 y5 : ah} (h : some (x0, x1, x2, x3, x4, x5) = some (y0, y1, y2, y3, y4, y5)) : x0 = y0 ∧ x1 = y1 ∧ x2 = y2 ∧ x3 = y3 ∧ x4 = y4 ∧ x5 = y5 := by cases h; exact ⟨rfl, rfl, rfl, rfl, rfl, rfl⟩
theorem Lk {aa ab ad ae af ah ai aj ak ao : Type} {x0 y0 : aa} {x1 y1 : ab} {x2 y2 : ad} {x3 y3 : ae} {x4 y4 : af} {x5 y5 : ah} {x6 y6 : ai} {x7 y7 : aj} {x8 y8 : ak} {x9 y9 : ao} (h : some (x0, x1, x2, x3, x4, x5, x6, x7, x8, x9) = some (y0, y1, y2, y3, y4, y5, y6, y7, y8, y9)) : x0 = y0 ∧ x1 = y1 ∧ x2 = y2 ∧ x3 = y3 ∧ x4 = y4 ∧ x5 = y5 ∧ x6 = y6 ∧ x7 = y7 ∧ x8 = y8 ∧ x9 = y9 := by cases h; exact ⟨rfl, rfl, rfl, rfl, rfl, rfl, rfl, rfl, rfl, rfl⟩
def Oe {α : Type} [DecidableEq α] (c : Prop) [Decidable c] (x y : Option α) : Option α := if c then (if x = y then x else none) else y
theorem SJ {α : Type} [DecidableEq α] {c : Prop} [Decidable c] {x y : Option α} {r : α} (h : Oe c x y = some r) (hc : c) : x = some r := by
  unfold Oe at h; rw [if_pos hc] at h
  split at h
  · exact h
  · cases h
theorem Sz {α : Type} [DecidableEq α] {c : Prop} [Decidable c] {x y : Option α} {r : α} (h : Oe c x y = some r) : y = some r := by
  unfold Oe at h
  split at h
  · split at h
    · rename_i h2; rw [← h2]; exact h
    · cases h
  · exact h
def yl {α : Type} (x : α) (o : Option (List α)) : Option (List α) := match o with | none => none | some l => some (x :: l)
theorem Uc {α : Type} {x : α} {o : Option (List α)} {r : List α} (h : yl x o = some r) : ∃ tl, o = some tl ∧ r = x :: tl := by
  cases o with
  | none => cases h
  | some l => exact ⟨l, rfl, (Option.some.inj h).symm⟩
end Go.PL
