/- Layer 5: sets as numbers, who cries, which sets fit an hour, a watch at work; in plain Lean. -/
import Derived.Test.YtjgeaaganpkceaaZjTd
namespace Go.Proofs.Ytjgeaaganpkceaa.Nt
open Go.PL
theorem bvE {α β : Type} {a : α} {f : α → Option β} : bv a f = f a := rfl
theorem r64_small {x : Int} (h : -1000000000 ≤ x ∧ x ≤ 1000000000) : R64 x := by unfold R64; omega
theorem toNat_sub0 (p : Nat) : Int.toNat ((p : Int) - ((0 : Nat) : Int)) = p := by omega
theorem toNat_sub00 (p : Nat) : Int.toNat ((p : Int) - 0) = p := by omega
theorem r64_nat {p : Nat} (h : p ≤ 1000000) : R64 (p : Int) := r64_small (by omega)
theorem r64_nat1 {p : Nat} (h : p ≤ 1000000) : R64 ((p : Int) - 1) := r64_small (by omega)
theorem getD_of {α : Type} {xs : List α} {i : Nat} {d : α} (h : i < xs.length) : xs[i]? = some (xs.getD i d) := by
  rw [List.getD_eq_getElem?_getD, List.getElem?_eq_getElem h]; rfl
theorem ixN {α β : Type} {xs : List α} {i : Nat} (d : α) (f : α → Option β) (h : i < xs.length) : ix xs (i : Int) f = f (xs.getD i d) :=
  ix_t (by omega) (by rw [Int.toNat_natCast]; exact getD_of h)
theorem in_eq (n lo hi : Int) : night_in n lo hi = some (decide (lo ≤ n ∧ n ≤ hi)) := by
  unfold night_in
  by_cases h : lo ≤ n <;> simp [h]
theorem band_nat {x y : Nat} (hx : x < 9223372036854775808) (hy : y < 9223372036854775808) : band (x : Int) (y : Int) = ((x &&& y : Nat) : Int) := by
  have ho : x &&& y ≤ x := Nat.and_le_left
  unfold band
  rw [BitVec.ofInt_natCast, BitVec.ofInt_natCast]
  have e : (BitVec.ofNat 64 x &&& BitVec.ofNat 64 y).toNat = x &&& y := by
    rw [BitVec.toNat_and, BitVec.toNat_ofNat, BitVec.toNat_ofNat, Nat.mod_eq_of_lt (by omega), Nat.mod_eq_of_lt (by omega)]
  rw [BitVec.toInt_eq_toNat_of_lt (by rw [e]; omega), e]
theorem bor_nat {x y : Nat} (hx : x < 9223372036854775808) (hy : y < 9223372036854775808) : bor (x : Int) (y : Int) = ((x ||| y : Nat) : Int) := by
  have ho : x ||| y < 2 ^ 63 := Nat.or_lt_two_pow hx hy
  unfold bor
  rw [BitVec.ofInt_natCast, BitVec.ofInt_natCast]
  have e : (BitVec.ofNat 64 x ||| BitVec.ofNat 64 y).toNat = x ||| y := by
    rw [BitVec.toNat_or, BitVec.toNat_ofNat, BitVec.toNat_ofNat, Nat.mod_eq_of_lt (by omega), Nat.mod_eq_of_lt (by omega)]
  rw [BitVec.toInt_eq_toNat_of_lt (by rw [e]; omega), e]
theorem bxor_nat {x y : Nat} (hx : x < 9223372036854775808) (hy : y < 9223372036854775808) : bxor (x : Int) (y : Int) = ((x ^^^ y : Nat) : Int) := by
  have ho : x ^^^ y < 2 ^ 63 := Nat.xor_lt_two_pow hx hy
  unfold bxor
  rw [BitVec.ofInt_natCast, BitVec.ofInt_natCast]
  have e : (BitVec.ofNat 64 x ^^^ BitVec.ofNat 64 y).toNat = x ^^^ y := by
    rw [BitVec.toNat_xor, BitVec.toNat_ofNat, BitVec.toNat_ofNat, Nat.mod_eq_of_lt (by omega), Nat.mod_eq_of_lt (by omega)]
  rw [BitVec.toInt_eq_toNat_of_lt (by rw [e]; omega), e]
theorem shl_nat (k : Nat) : shl 1 (k : Int) = ((2 ^ k : Nat) : Int) := by
  unfold shl
  rw [Int.one_mul, Int.toNat_natCast]; simp
theorem shl_r {k : Nat} (h : k < 60) : (0 ≤ (k : Int) ∧ (k : Int) < 64) ∧ R64 (shl 1 (k : Int)) := by
  have h1 : 2 ^ k < 2 ^ 60 := Nat.pow_lt_pow_right (by decide) h
  have h2 : (0 : Nat) < 2 ^ k := Nat.pow_pos (by decide)
  rw [shl_nat]
  unfold R64
  omega
theorem bit_nat {x : Nat} (hx : x < 9223372036854775808) (k : Nat) : band (shr (x : Int) (k : Int)) 1 = if x.testBit k then 1 else 0 := by
  have e : shr (x : Int) (k : Int) = ((x >>> k : Nat) : Int) := by
    unfold shr
    rw [Int.toNat_natCast, Nat.shiftRight_eq_div_pow]; simp
  have hle : x >>> k ≤ x := by rw [Nat.shiftRight_eq_div_pow]; exact Nat.div_le_self ..
  rw [e, show (1 : Int) = ((1 : Nat) : Int) from rfl, band_nat (by omega) (by decide)]
  rw [Nat.testBit, Nat.and_comm]
  rcases Nat.mod_two_eq_zero_or_one (x >>> k) with h | h
  · simp [h]
  · simp [h]
theorem bit_one {x : Nat} (hx : x < 9223372036854775808) (k : Nat) : (band (shr (x : Int) (k : Int)) 1 = 1) ↔ x.testBit k = true := by
  rw [bit_nat hx]; cases x.testBit k <;> simp
theorem bit_zero {x : Nat} (hx : x < 9223372036854775808) (k : Nat) : (band (shr (x : Int) (k : Int)) 1 = 0) ↔ ¬ x.testBit k = true := by
  rw [bit_nat hx]; cases x.testBit k <;> simp
theorem pow63 {k : Nat} (h : k ≤ 62) : 2 ^ k < 9223372036854775808 :=
  Nat.lt_of_le_of_lt (Nat.pow_le_pow_right (by decide) h) (by decide)
theorem or_bit {c k : Nat} (h : c < 2 ^ k) : c ||| 2 ^ k < 2 ^ (k + 1) :=
  Nat.or_lt_two_pow (Nat.lt_of_lt_of_le h (Nat.pow_le_pow_right (by decide) (by omega))) (Nat.pow_lt_pow_right (by decide) (by omega))
/-- Is one of them in the set? -/
def has (l : List Int) (c : Nat) : Bool := l.any fun m => c.testBit m.toNat
def cryF (a : Nat) : List (List Int) → Nat → Nat → Nat
  | [], _, c => c
  | l :: ls, k, c => cryF a ls (k + 1) (if (!a.testBit k && (l.isEmpty || has l c)) = true then c ||| 2 ^ k else c)
def cryS (ls : List (List Int)) (a : Nat) : Nat := cryF a ls 0 0
def Small (ls : List (List Int)) : Prop := ∀ l ∈ ls, ∀ m ∈ l, 0 ≤ m ∧ m < 60
theorem cryF_lt (a : Nat) : ∀ (ls : List (List Int)) (k c : Nat), c < 2 ^ k → cryF a ls k c < 2 ^ (k + ls.length)
  | [], k, c, h => h
  | l :: ls, k, c, h => by
    unfold cryF
    have := cryF_lt a ls (k + 1) (if (!a.testBit k && (l.isEmpty || has l c)) = true then c ||| 2 ^ k else c) (by
      split
      · exact or_bit h
      · exact Nat.lt_of_lt_of_le h (Nat.pow_le_pow_right (by decide) (by omega)))
    rw [List.length_cons, show k + (ls.length + 1) = k + 1 + ls.length by omega]
    exact this
theorem cryS_lt (ls : List (List Int)) (a : Nat) : cryS ls a < 2 ^ ls.length := by
  have := cryF_lt a ls 0 0 (by decide)
  rwa [Nat.zero_add] at this
theorem index_eq {f : Int → Option Bool} {g : Int → Bool} : ∀ (l : List Int) (k : Int), 0 ≤ k → (∀ x ∈ l, f x = some (g x)) → ∃ n, slices_IndexFunc_int_int_l2 f l k = some n ∧ (0 ≤ n ↔ l.any g = true)
  | [], k, _, _ => ⟨-1, rfl, by simp⟩
  | x :: l, k, hk, h => by
    unfold slices_IndexFunc_int_int_l2
    rw [h x (by simp), b1_some]
    by_cases hx : g x = true
    · exact ⟨k, by rw [if_pos hx], by simp [hx, hk]⟩
    · obtain ⟨n, h1, h2⟩ := index_eq l (k + 1) (by omega) (fun y hy => h y (by simp [hy]))
      exact ⟨n, by rw [if_neg hx]; exact h1, by rw [h2]; simp [hx]⟩
theorem contains_eq {f : Int → Option Bool} {g : Int → Bool} {l : List Int} (h : ∀ x ∈ l, f x = some (g x)) : slices_ContainsFunc_int_int l f = some (l.any g) := by
  unfold slices_ContainsFunc_int_int slices_IndexFunc_int_int
  obtain ⟨n, h1, h2⟩ := index_eq l 0 (Int.le_refl _) h
  rw [h1, b1_some]
  congr 1
  by_cases h3 : 0 ≤ n
  · rw [h2.1 h3]; simp [h3]
  · have : ¬ l.any g = true := fun h4 => h3 (h2.2 h4)
    simp only [Bool.not_eq_true] at this
    rw [this]; simp [h3]
theorem has_eq {l : List Int} {c : Nat} (hl : ∀ m ∈ l, 0 ≤ m ∧ m < 60) (hc : c < 9223372036854775808) : slices_ContainsFunc_int_int l (fun x => night_desk_cries_1 x (c : Int)) = some (has l c) := by
  refine contains_eq (g := fun m => c.testBit m.toNat) fun x hx => ?_
  obtain ⟨h0, h1⟩ := hl x hx
  unfold night_desk_cries_1
  rw [gd_t ⟨h0, by omega⟩]
  obtain ⟨k, rfl⟩ := Int.eq_ofNat_of_zero_le h0
  rw [Int.toNat_natCast]
  congr 1
  cases h : c.testBit k with
  | true => exact decide_eq_true ((bit_one hc k).2 h)
  | false => exact decide_eq_false fun h2 => by rw [(bit_one hc k).1 h2] at h; cases h
theorem cries_l1 {a : Nat} (ha : a < 9223372036854775808) : ∀ (ls : List (List Int)) (k c : Nat), Small ls → k + ls.length ≤ 50 → c < 2 ^ k → night_desk_cries_l1 (a : Int) ls (k : Int) (c : Int) = some (cryF a ls k c : Int)
  | [], k, c, _, _, _ => rfl
  | l :: ls, k, c, hs, hk, hc => by
    have hk' : k + 1 + ls.length ≤ 50 := by rw [List.length_cons] at hk; omega
    have hc63 : c < 9223372036854775808 := Nat.lt_trans hc (pow63 (by omega))
    unfold night_desk_cries_l1 cryF
    have hs' : Small ls := fun l' hl => hs l' (List.mem_cons_of_mem _ hl)
    have ek : (k : Int) + 1 = ((k + 1 : Nat) : Int) := by omega
    have go : ∀ b : Bool, (b1 (some b) fun k2 => if k2 = true then gd ((0 ≤ (k : Int) ∧ (k : Int) < 64) ∧ R64 (shl 1 (k : Int))) <| night_desk_cries_l1 (a : Int) ls ((k : Int) + 1) (bor (c : Int) (shl 1 (k : Int))) else night_desk_cries_l1 (a : Int) ls ((k : Int) + 1) (c : Int)) = some (cryF a ls (k + 1) (if b = true then c ||| 2 ^ k else c) : Int) := fun b => by
      rw [b1_some]
      cases b with
      | true =>
        rw [if_pos rfl, if_pos rfl, gd_t (shl_r (by omega)), shl_nat, bor_nat hc63 (pow63 (by omega)), ek]
        exact cries_l1 ha ls (k + 1) _ hs' hk' (or_bit hc)
      | false =>
        rw [if_neg (by decide), if_neg (by decide), ek]
        exact cries_l1 ha ls (k + 1) c hs' hk' (Nat.lt_of_lt_of_le hc (Nat.pow_le_pow_right (by decide) (by omega)))
    rw [gd_t ⟨by omega, by omega⟩]
    by_cases h1 : a.testBit k = true
    · rw [if_neg (fun h => (bit_zero ha k).1 h h1), go false, h1]; rfl
    · rw [if_pos ((bit_zero ha k).2 h1)]
      simp only [Bool.not_eq_true] at h1
      rw [h1]
      by_cases h2 : (l.length : Int) = 0
      · have h3 : l = [] := List.eq_nil_of_length_eq_zero (by omega)
        rw [if_pos h2, go true, h3]; rfl
      · have h3 : l.isEmpty = false := by cases l with
          | nil => simp at h2
          | cons _ _ => rfl
        rw [if_neg h2, has_eq (hs l (List.mem_cons_self ..)) hc63, b1_some, go (has l c), h3]
        simp only [Bool.not_false, Bool.true_and, Bool.false_or]
/-- What was found so far holds. -/
def MOK (ls : List (List Int)) (cried : List (Int × Int)) : Prop := ∀ (a : Nat) (v : Int), mget cried (a : Int) = some v → v = cryS ls a
theorem cries_eq {ls : List (List Int)} {hs : List (List Int)} {cried : List (Int × Int)} {a : Nat} (ha : a < 9223372036854775808) (h1 : Small ls) (h2 : ls.length ≤ 50) (hm : MOK ls cried) : ∃ cried', night_desk_cries ls hs cried (a : Int) = some ((cryS ls a : Int), cried') ∧ MOK ls cried' := by
  unfold night_desk_cries
  cases h : mget cried (a : Int) with
  | some v => exact ⟨cried, by rw [if_pos (show (some v).isSome = true from rfl), ← hm a v h]; rfl, hm⟩
  | none =>
    refine ⟨_, by
      rw [if_neg (by simp), show (0 : Int) = ((0 : Nat) : Int) from rfl, cries_l1 ha ls 0 0 h1 (by omega) (by decide), b1_some, bvE]; rfl, fun b v hb => ?_⟩
    rw [mget_mput] at hb
    by_cases he : (a : Int) = (b : Int)
    · rw [if_pos he] at hb
      have : a = b := by omega
      rw [← this]; exact (Option.some.inj hb).symm
    · rw [if_neg he] at hb; exact hm b v hb
theorem cry_l2 {c : Nat} (hc : c < 9223372036854775808) : ∀ (l : List Int) (b : Bool), (∀ m ∈ l, 0 ≤ m ∧ m < 60) → oyezlaw05_cry_l2 (c : Int) l b = some (b || has l c)
  | [], b, _ => by simp [oyezlaw05_cry_l2, has]
  | m :: l, b, h => by
    unfold oyezlaw05_cry_l2
    obtain ⟨h0, h1⟩ := h m (List.mem_cons_self ..)
    have ih := cry_l2 hc l
    cases b with
    | true => rw [if_pos rfl, ih true (fun x hx => h x (List.mem_cons_of_mem _ hx))]; simp
    | false =>
      obtain ⟨k, rfl⟩ := Int.eq_ofNat_of_zero_le h0
      rw [if_neg (by decide), gd_t ⟨h0, by omega⟩, ih _ (fun x hx => h x (List.mem_cons_of_mem _ hx))]
      have e : decide (band (shr (c : Int) (k : Int)) 1 = 1) = c.testBit k := by
        cases h : c.testBit k with
        | true => exact decide_eq_true ((bit_one hc k).2 h)
        | false => exact decide_eq_false fun h2 => by rw [(bit_one hc k).1 h2] at h; cases h
      rw [e]
      simp [has]
theorem cry_l1 {a : Nat} (ha : a < 9223372036854775808) : ∀ (ls : List (List Int)) (k c : Nat), Small ls → k + ls.length ≤ 50 → c < 2 ^ k → oyezlaw05_cry_l1 (a : Int) ls (k : Int) (c : Int) = some (cryF a ls k c : Int)
  | [], k, c, _, _, _ => rfl
  | l :: ls, k, c, hs, hk, hc => by
    have hk' : k + 1 + ls.length ≤ 50 := by rw [List.length_cons] at hk; omega
    have hc63 : c < 9223372036854775808 := Nat.lt_trans hc (pow63 (by omega))
    have hs' : Small ls := fun l' hl => hs l' (List.mem_cons_of_mem _ hl)
    have ek : (k : Int) + 1 = ((k + 1 : Nat) : Int) := by omega
    unfold oyezlaw05_cry_l1 cryF
    have e0 : decide ((l.length : Int) = 0) = l.isEmpty := by cases l with
      | nil => rfl
      | cons _ _ => simp only [List.length_cons, List.isEmpty_cons, decide_eq_false_iff_not]; omega
    rw [e0, cry_l2 hc63 l _ (hs l (List.mem_cons_self ..)), b1_some]
    have go : ∀ b : Bool, (b1 (b1 (some b) fun k3 => if k3 = true then gd ((0 ≤ (k : Int) ∧ (k : Int) < 64) ∧ R64 (shl 1 (k : Int))) <| some (bor (c : Int) (shl 1 (k : Int))) else some (c : Int)) fun out3 => oyezlaw05_cry_l1 (a : Int) ls ((k : Int) + 1) out3) = some (cryF a ls (k + 1) (if b = true then c ||| 2 ^ k else c) : Int) := fun b => by
      rw [b1_some]
      cases b with
      | true =>
        rw [if_pos rfl, if_pos rfl, gd_t (shl_r (by omega)), b1_some, shl_nat, bor_nat hc63 (pow63 (by omega)), ek]
        exact cry_l1 ha ls (k + 1) _ hs' hk' (or_bit hc)
      | false =>
        rw [if_neg (by decide), if_neg (by decide), b1_some, ek]
        exact cry_l1 ha ls (k + 1) c hs' hk' (Nat.lt_of_lt_of_le hc (Nat.pow_le_pow_right (by decide) (by omega)))
    by_cases hb : (l.isEmpty || has l c) = true
    · rw [hb, if_pos rfl, gd_t ⟨by omega, by omega⟩]
      have e : decide (band (shr (a : Int) (k : Int)) 1 = 0) = !a.testBit k := by
        cases h : a.testBit k with
        | true => exact decide_eq_false fun h2 => (bit_zero ha k).1 h2 h
        | false => exact decide_eq_true ((bit_zero ha k).2 (by rw [h]; decide))
      rw [e, go]
      simp
    · simp only [Bool.not_eq_true] at hb
      rw [hb, if_neg (by decide), go]
      simp
theorem cry_eq {ls : List (List Int)} {a : Nat} (ha : a < 9223372036854775808) (h1 : Small ls) (h2 : ls.length ≤ 50) : oyezlaw05_cry ls (a : Int) = some (cryS ls a : Int) := by
  unfold oyezlaw05_cry
  rw [show (0 : Int) = ((0 : Nat) : Int) from rfl, cry_l1 ha ls 0 0 h1 (by omega) (by decide), b1_some]; rfl
/-- Can this mark be? -/
def markB (c : Nat) (m : Int) (k : Nat) : Bool := !(decide (m = 1) && !c.testBit k || decide (m = 2) && c.testBit k)
def fitF (c : Nat) : List Int → Nat → Bool
  | [], _ => true
  | m :: ms, k => markB c m k && fitF c ms (k + 1)
/-- Does the set fit the marks? -/
def fitB (ls : List (List Int)) (ms : List Int) (a : Nat) : Bool := fitF (cryS ls a) ms 0
theorem mark_eq {c : Nat} (hc : c < 9223372036854775808) {k : Nat} (hk : k < 60) (m : Int) : (if m = 1 then gd (0 ≤ (k : Int) ∧ (k : Int) < 64) <| if band (shr (c : Int) (k : Int)) 1 = 0 then some true else (if m = 2 then gd (0 ≤ (k : Int) ∧ (k : Int) < 64) <| some (decide (band (shr (c : Int) (k : Int)) 1 = 1)) else some false)
    else (if m = 2 then gd (0 ≤ (k : Int) ∧ (k : Int) < 64) <| some (decide (band (shr (c : Int) (k : Int)) 1 = 1)) else some false)) = some (!markB c m k) := by
  have hg : 0 ≤ (k : Int) ∧ (k : Int) < 64 := by omega
  rw [gd_t hg, gd_t hg]
  unfold markB
  rw [bit_nat hc]
  by_cases h1 : m = 1
  · subst h1
    cases c.testBit k <;> simp
  · by_cases h2 : m = 2
    · subst h2
      cases c.testBit k <;> simp
    · simp [h1, h2]
/-- The men whose marks cannot be. -/
def wrongF (c : Nat) : List Int → Nat → Nat → Nat
  | [], _, w => w
  | m :: ms, k, w => wrongF c ms (k + 1) (if markB c m k = true then w else w ||| 2 ^ k)
theorem wrong_l1 {c : Nat} (hc : c < 9223372036854775808) : ∀ (ms : List Int) (k w : Nat), k + ms.length ≤ 50 → w < 2 ^ k → night_desk_wrong_l1 (c : Int) ms (k : Int) (w : Int) = some (wrongF c ms k w : Int)
  | [], k, w, _, _ => rfl
  | m :: ms, k, w, h, hw => by
    rw [List.length_cons] at h
    unfold night_desk_wrong_l1 wrongF
    have hw63 : w < 9223372036854775808 := Nat.lt_trans hw (pow63 (by omega))
    rw [mark_eq hc (by omega) m, b1_some, show (k : Int) + 1 = ((k + 1 : Nat) : Int) by omega]
    cases markB c m k with
    | true =>
      rw [if_neg (by decide), if_pos rfl]
      exact wrong_l1 hc ms (k + 1) w (by omega) (Nat.lt_of_lt_of_le hw (Nat.pow_le_pow_right (by decide) (by omega)))
    | false =>
      rw [if_pos (by decide), if_neg (by decide), gd_t (shl_r (by omega)), shl_nat, bor_nat hw63 (pow63 (by omega))]
      exact wrong_l1 hc ms (k + 1) _ (by omega) (or_bit hw)
theorem wrongF_zero (c : Nat) : ∀ (ms : List Int) (k w : Nat), wrongF c ms k w = 0 ↔ w = 0 ∧ fitF c ms k = true
  | [], k, w => by simp [wrongF, fitF]
  | m :: ms, k, w => by
    unfold wrongF fitF
    rw [wrongF_zero c ms]
    cases markB c m k with
    | true => simp
    | false =>
      have : w ||| 2 ^ k ≠ 0 := fun h => by
        have h1 : (w ||| 2 ^ k).testBit k = true := by rw [Nat.testBit_or, Nat.testBit_two_pow_self, Bool.or_true]
        rw [h, Nat.zero_testBit] at h1; cases h1
      simp [this]
theorem wrong_dec (c : Nat) (ms : List Int) : decide (((wrongF c ms 0 0 : Nat) : Int) = 0) = fitF c ms 0 := by
  have hz := wrongF_zero c ms 0 0
  by_cases hf : fitF c ms 0 = true
  · rw [hf]
    refine decide_eq_true ?_
    rw [hz.2 ⟨rfl, hf⟩]; rfl
  · have h2 : ¬ ((wrongF c ms 0 0 : Nat) : Int) = 0 := fun h5 => hf (hz.1 (by omega)).2
    simp only [Bool.not_eq_true] at hf
    rw [hf]
    exact decide_eq_false h2
theorem wrong_eq {ls hs : List (List Int)} {cried : List (Int × Int)} {h a : Nat} (ha : a < 9223372036854775808) (h1 : Small ls) (h2 : ls.length ≤ 50) (hm : MOK ls cried) (hh : h < hs.length) (h3 : ∀ ms ∈ hs, ms.length ≤ 50) : ∃ cried', night_desk_wrong ls hs cried (h : Int) (a : Int) = some ((wrongF (cryS ls a) (hs.getD h []) 0 0 : Int), cried') ∧ MOK ls cried' := by
  unfold night_desk_wrong
  obtain ⟨c2, e, hm2⟩ := cries_eq (hs := hs) ha h1 h2 hm
  refine ⟨c2, ?_, hm2⟩
  have hmem : hs.getD h [] ∈ hs := by rw [List.getD_eq_getElem?_getD, List.getElem?_eq_getElem hh]; exact List.getElem_mem hh
  rw [e, b2_some, ixN [] _ hh, show (0 : Int) = ((0 : Nat) : Int) from rfl, wrong_l1 (Nat.lt_trans (cryS_lt ls a) (pow63 (by omega))) _ 0 0 (by have := h3 _ hmem; omega) (by decide), b1_some]
def rowP (ls : List (List Int)) (ms : List Int) (m : Nat) : List Bool := (List.range 64).map fun j => decide (j < m) && fitB ls ms j
theorem rowP_len (ls : List (List Int)) (ms : List Int) (m : Nat) : (rowP ls ms m).length = 64 := by simp [rowP]
theorem rowP_zero (ls : List (List Int)) (ms : List Int) : rowP ls ms 0 = List.replicate 64 false := by
  unfold rowP
  rw [List.eq_replicate_iff]
  simp
theorem rowP_set (ls : List (List Int)) (ms : List Int) {m : Nat} (h : m < 64) : (rowP ls ms m).set m (fitB ls ms m) = rowP ls ms (m + 1) := by
  apply List.ext_getElem?
  intro j
  rw [List.getElem?_set]
  by_cases hj : m = j
  · subst hj
    simp [rowP, h]
  · rw [if_neg hj]
    by_cases hj2 : j < 64
    · simp only [rowP, List.getElem?_map, List.getElem?_range hj2, Option.map_some]
      have : decide (j < m) = decide (j < m + 1) := by
        by_cases h3 : j < m
        · rw [decide_eq_true h3, decide_eq_true (by omega)]
        · rw [decide_eq_false h3, decide_eq_false (by omega)]
      rw [this]
    · rw [List.getElem?_eq_none (by rw [rowP_len]; omega), List.getElem?_eq_none (by rw [rowP_len]; omega)]
/-- The sets that fit an hour. -/
def rowOf (ls : List (List Int)) (ms : List Int) : List Bool := rowP ls ms (2 ^ ls.length)
theorem sets_eq {ls hs : List (List Int)} (h : ls.length ≤ 50) : night_desk_sets ls hs = some ((2 ^ ls.length : Nat) : Int) := by
  unfold night_desk_sets
  rw [gd_t (shl_r (by omega)), shl_nat]
theorem opened_l2 {ls hs : List (List Int)} (h1 : Small ls) (h2 : ls.length ≤ 50) (h3 : ∀ ms ∈ hs, ms.length ≤ 50) {h : Nat} (hh : h < hs.length) : ∀ (fu m : Nat) (cried : List (Int × Int)), m + fu ≤ 64 → MOK ls cried →
    ∃ cried', night_opened_l2 ls hs (h : Int) fu (m : Int) cried (rowP ls (hs.getD h []) m) = some (cried', rowP ls (hs.getD h []) (m + fu)) ∧ MOK ls cried'
  | 0, m, cried, _, hm => ⟨cried, rfl, hm⟩
  | fu + 1, m, cried, hf, hm => by
    unfold night_opened_l2
    obtain ⟨c2, e, hm2⟩ := wrong_eq (a := m) (by omega) h1 h2 hm hh h3
    obtain ⟨c3, e3, hm3⟩ := opened_l2 h1 h2 h3 hh fu (m + 1) c2 (by omega) hm2
    refine ⟨c3, ?_, hm3⟩
    have hd := wrong_dec (cryS ls m) (hs.getD h [])
    rw [e, b2_some, ixN false _ (by rw [rowP_len]; omega), bvE, hd, Int.toNat_natCast, show fitF (cryS ls m) (hs.getD h []) 0 = fitB ls (hs.getD h []) m from rfl, rowP_set _ _ (by omega), show (m : Int) + 1 = ((m + 1 : Nat) : Int) by omega, e3, show m + 1 + fu = m + (fu + 1) by omega]
theorem opened_l1 {ls hs : List (List Int)} (h1 : Small ls) (h2 : ls.length ≤ 6) (h3 : ∀ ms ∈ hs, ms.length ≤ 50) : ∀ (tl : List (List Int)) (k : Nat) (cried : List (Int × Int)) (rows : List (List Bool)), hs.drop k = tl → rows.length + tl.length ≤ 1000 → MOK ls cried →
    ∃ cried', night_opened_l1 ls hs tl (k : Int) cried rows = some (cried', rows ++ tl.map (rowOf ls)) ∧ MOK ls cried'
  | [], k, cried, rows, _, _, hm => ⟨cried, by simp [night_opened_l1], hm⟩
  | ms :: tl, k, cried, rows, hd, hl, hm => by
    rw [List.length_cons] at hl
    have hk : k < hs.length := by
      rcases Nat.lt_or_ge k hs.length with h | h
      · exact h
      · rw [List.drop_eq_nil_of_le h] at hd; cases hd
    have hg : hs.getD k [] = ms := by
      rw [List.drop_eq_getElem_cons hk] at hd
      rw [List.getD_eq_getElem?_getD, List.getElem?_eq_getElem hk]
      exact (List.cons.inj hd).1
    have hd2 : hs.drop (k + 1) = tl := by
      rw [List.drop_eq_getElem_cons hk] at hd
      exact (List.cons.inj hd).2
    have hp : 2 ^ ls.length ≤ 64 := Nat.pow_le_pow_right (n := 2) (by decide) h2
    obtain ⟨c2, e2, hm2⟩ := opened_l2 h1 (by omega) h3 hk (2 ^ ls.length) 0 cried (by omega) hm
    obtain ⟨c3, e3, hm3⟩ := opened_l1 h1 h2 h3 tl (k + 1) c2 (rows ++ [rowOf ls ms]) hd2 (by simp; omega) hm2
    refine ⟨c3, ?_, hm3⟩
    unfold night_opened_l1
    rw [sets_eq (by omega), b1_some, gd_t ⟨r64_small (by omega), r64_nat (by omega)⟩, ← rowP_zero ls (hs.getD k []), show (0 : Int) = ((0 : Nat) : Int) from rfl, toNat_sub0, e2, b2_some, Nat.zero_add]
    rw [ap_t (by simp; omega), b2_some, show (k : Int) + 1 = ((k + 1 : Nat) : Int) by omega, hg]
    show night_opened_l1 ls hs tl _ c2 (rows ++ [rowOf ls ms]) = _
    rw [e3]; simp
end Go.Proofs.Ytjgeaaganpkceaa.Nt
