/- Lists that are turned round by exchanges; lists of numbers in order; in plain Lean. -/
import Derived.Test.YtfmapnhfamoecaaGreatZWPl
import Derived.Test.YtfmapnhfamoecaaGreatZWTd
namespace Go.Proofs.YtfmapnhfamoecaaGreat.Rv
section
variable {α : Type}
end
def Up (n f : Nat) (c : List Nat) : Prop := c.Pairwise (· < ·) ∧ ∀ i ∈ c, f ≤ i ∧ i < n
theorem Up.nil (n f : Nat) : Up n f [] := ⟨List.Pairwise.nil, fun _ h => nomatch h⟩
theorem Up.cons {n f i : Nat} {c : List Nat} : Up n f (i :: c) ↔ (f ≤ i ∧ i < n) ∧ Up n (i + 1) c := by
  constructor
  · intro h
    have h1 := List.pairwise_cons.1 h.1
    exact ⟨h.2 i (List.mem_cons_self ..), h1.2, fun j hj => ⟨h1.1 j hj, (h.2 j (List.mem_cons_of_mem _ hj)).2⟩⟩
  · rintro ⟨h1, h2⟩
    refine ⟨List.pairwise_cons.2 ⟨fun j hj => (h2.2 j hj).1, h2.1⟩, fun j hj => ?_⟩
    rcases List.mem_cons.1 hj with rfl | hj
    · exact h1
    · have := h2.2 j hj
      omega
def lex : List Nat → List Nat → Prop
  | [], _ => True
  | _ :: _, [] => False
  | a :: s, b :: t => a < b ∨ (a = b ∧ lex s t)
theorem Up.len {n : Nat} : ∀ {c : List Nat} {f : Nat}, Up n f c → c.length ≤ n - f
  | [], _, _ => Nat.zero_le _
  | i :: c, f, h => by
    obtain ⟨h1, h2⟩ := Up.cons.1 h
    have := Up.len h2
    rw [List.length_cons]; omega
end Go.Proofs.YtfmapnhfamoecaaGreat.Rv
namespace Go.Proofs.YtfmapnhfamoecaaGreat.Nt
open Go.PL
theorem QR {α β : Type} {a : α} {f : α → Option β} : bv a f = f a := rfl
theorem Cf {x : Int} (h : -1000000000 ≤ x ∧ x ≤ 1000000000) : C6 x := by unfold C6; omega
theorem Qs (p : Nat) : Int.toNat ((p : Int) - ((0 : Nat) : Int)) = p := by omega
theorem Mz (p : Nat) : Int.toNat ((p : Int) - 0) = p := by omega
theorem Ub {p : Nat} (h : p ≤ 1000000) : C6 (p : Int) := Cf (by omega)
theorem S5 {p : Nat} (h : p ≤ 1000000) : C6 ((p : Int) - 1) := Cf (by omega)
theorem Um {α : Type} {xs : List α} {i : Nat} {d : α} (h : i < xs.length) : xs[i]? = some (xs.getD i d) := by
  rw [List.getD_eq_getElem?_getD, List.getElem?_eq_getElem h]; rfl
theorem Q2 {α β : Type} {xs : List α} {i : Nat} (d : α) (f : α → Option β) (h : i < xs.length) : ix xs (i : Int) f = f (xs.getD i d) :=
  XM (by omega) (by rw [Int.toNat_natCast]; exact Um h)
theorem Pr (n lo hi : Int) : G6 n lo hi = some (decide (lo ≤ n ∧ n ≤ hi)) := by
  unfold G6
  by_cases h : lo ≤ n <;> simp [h]
theorem SE {x y : Nat} (hx : x < 9223372036854775808) (hy : y < 9223372036854775808) : Fa (x : Int) (y : Int) = ((x &&& y : Nat) : Int) := by
  have ho : x &&& y ≤ x := Nat.and_le_left
  unfold Fa
  rw [BitVec.ofInt_natCast, BitVec.ofInt_natCast]
  have e : (BitVec.ofNat 64 x &&& BitVec.ofNat 64 y).toNat = x &&& y := by
    rw [BitVec.toNat_and, BitVec.toNat_ofNat, BitVec.toNat_ofNat, Nat.mod_eq_of_lt (by omega), Nat.mod_eq_of_lt (by omega)]
  rw [BitVec.toInt_eq_toNat_of_lt (by rw [e]; omega), e]
theorem PS {x y : Nat} (hx : x < 9223372036854775808) (hy : y < 9223372036854775808) : Oe (x : Int) (y : Int) = ((x ||| y : Nat) : Int) := by
  have ho : x ||| y < 2 ^ 63 := Nat.or_lt_two_pow hx hy
  unfold Oe
  rw [BitVec.ofInt_natCast, BitVec.ofInt_natCast]
  have e : (BitVec.ofNat 64 x ||| BitVec.ofNat 64 y).toNat = x ||| y := by
    rw [BitVec.toNat_or, BitVec.toNat_ofNat, BitVec.toNat_ofNat, Nat.mod_eq_of_lt (by omega), Nat.mod_eq_of_lt (by omega)]
  rw [BitVec.toInt_eq_toNat_of_lt (by rw [e]; omega), e]
theorem VG {x y : Nat} (hx : x < 9223372036854775808) (hy : y < 9223372036854775808) : UK (x : Int) (y : Int) = ((x ^^^ y : Nat) : Int) := by
  have ho : x ^^^ y < 2 ^ 63 := Nat.xor_lt_two_pow hx hy
  unfold UK
  rw [BitVec.ofInt_natCast, BitVec.ofInt_natCast]
  have e : (BitVec.ofNat 64 x ^^^ BitVec.ofNat 64 y).toNat = x ^^^ y := by
    rw [BitVec.toNat_xor, BitVec.toNat_ofNat, BitVec.toNat_ofNat, Nat.mod_eq_of_lt (by omega), Nat.mod_eq_of_lt (by omega)]
  rw [BitVec.toInt_eq_toNat_of_lt (by rw [e]; omega), e]
def WA (x y : Nat) : Nat := x ^^^ (x &&& y)
theorem Ug (x y i : Nat) : (WA x y).testBit i = (x.testBit i && !y.testBit i) := by
  unfold WA
  rw [Nat.testBit_xor, Nat.testBit_and]
  cases x.testBit i <;> cases y.testBit i <;> rfl
theorem MF (k : Nat) : shl 1 (k : Int) = ((2 ^ k : Nat) : Int) := by
  unfold shl
  rw [Int.one_mul, Int.toNat_natCast]; simp
theorem SW {k : Nat} (h : k < 60) : (0 ≤ (k : Int) ∧ (k : Int) < 64) ∧ C6 (shl 1 (k : Int)) := by
  have h1 : 2 ^ k < 2 ^ 60 := Nat.pow_lt_pow_right (by decide) h
  have h2 : (0 : Nat) < 2 ^ k := Nat.pow_pos (by decide)
  rw [MF]
  unfold C6
  omega
theorem PK {x : Nat} (hx : x < 9223372036854775808) (k : Nat) : Fa (shr (x : Int) (k : Int)) 1 = if x.testBit k then 1 else 0 := by
  have e : shr (x : Int) (k : Int) = ((x >>> k : Nat) : Int) := by
    unfold shr
    rw [Int.toNat_natCast, Nat.shiftRight_eq_div_pow]; simp
  have hle : x >>> k ≤ x := by rw [Nat.shiftRight_eq_div_pow]; exact Nat.div_le_self ..
  rw [e, show (1 : Int) = ((1 : Nat) : Int) from rfl, SE (by omega) (by decide)]
  rw [Nat.testBit, Nat.and_comm]
  rcases Nat.mod_two_eq_zero_or_one (x >>> k) with h | h
  · simp [h]
  · simp [h]
theorem Jf {x : Nat} (hx : x < 9223372036854775808) (k : Nat) : (Fa (shr (x : Int) (k : Int)) 1 = 1) ↔ x.testBit k = true := by
  rw [PK hx]; cases x.testBit k <;> simp
theorem K9 {x : Nat} (hx : x < 9223372036854775808) (k : Nat) : (Fa (shr (x : Int) (k : Int)) 1 = 0) ↔ ¬ x.testBit k = true := by
  rw [PK hx]; cases x.testBit k <;> simp
theorem Mu {k : Nat} (h : k ≤ 62) : 2 ^ k < 9223372036854775808 :=
  Nat.lt_of_le_of_lt (Nat.pow_le_pow_right (by decide) h) (by decide)
theorem RI {c k : Nat} (h : c < 2 ^ k) : c ||| 2 ^ k < 2 ^ (k + 1) :=
  Nat.or_lt_two_pow (Nat.lt_of_lt_of_le h (Nat.pow_le_pow_right (by decide) (by omega))) (Nat.pow_lt_pow_right (by decide) (by omega))
def has (l : List Int) (c : Nat) : Bool := l.any fun m => c.testBit m.toNat
def QX (a : Nat) : List (List Int) → Nat → Nat → Nat
  | [], _, c => c
  | l :: ls, k, c => QX a ls (k + 1) (if (!a.testBit k && (l.isEmpty || has l c)) = true then c ||| 2 ^ k else c)
def Kx (ls : List (List Int)) (a : Nat) : Nat := QX a ls 0 0
def Small (ls : List (List Int)) : Prop := ∀ l ∈ ls, ∀ m ∈ l, 0 ≤ m ∧ m < 60
theorem TC (a : Nat) : ∀ (ls : List (List Int)) (k c : Nat), c < 2 ^ k → QX a ls k c < 2 ^ (k + ls.length)
  | [], k, c, h => h
  | l :: ls, k, c, h => by
    unfold QX
    have := TC a ls (k + 1) (if (!a.testBit k && (l.isEmpty || has l c)) = true then c ||| 2 ^ k else c) (by
      split
      · exact RI h
      · exact Nat.lt_of_lt_of_le h (Nat.pow_le_pow_right (by decide) (by omega)))
    rw [List.length_cons, show k + (ls.length + 1) = k + 1 + ls.length by omega]
    exact this
theorem RK (ls : List (List Int)) (a : Nat) : Kx ls a < 2 ^ ls.length := by
  have := TC a ls 0 0 (by decide)
  rwa [Nat.zero_add] at this
theorem Sq {f : Int → Option Bool} {g : Int → Bool} : ∀ (l : List Int) (k : Int), 0 ≤ k → (∀ x ∈ l, f x = some (g x)) → ∃ n, B8 f l k = some n ∧ (0 ≤ n ↔ l.any g = true)
  | [], k, _, _ => ⟨-1, rfl, by simp⟩
  | x :: l, k, hk, h => by
    unfold B8
    rw [h x (by simp), AZ]
    by_cases hx : g x = true
    · exact ⟨k, by rw [if_pos hx], by simp [hx, hk]⟩
    · obtain ⟨n, h1, h2⟩ := Sq l (k + 1) (by omega) (fun y hy => h y (by simp [hy]))
      exact ⟨n, by rw [if_neg hx]; exact h1, by rw [h2]; simp [hx]⟩
theorem contains_eq {f : Int → Option Bool} {g : Int → Bool} {l : List Int} (h : ∀ x ∈ l, f x = some (g x)) : BD l f = some (l.any g) := by
  unfold BD Ep
  obtain ⟨n, h1, h2⟩ := Sq l 0 (Int.le_refl _) h
  rw [h1, AZ]
  congr 1
  by_cases h3 : 0 ≤ n
  · rw [h2.1 h3]; simp [h3]
  · have : ¬ l.any g = true := fun h4 => h3 (h2.2 h4)
    simp only [Bool.not_eq_true] at this
    rw [this]; simp [h3]
theorem has_eq {l : List Int} {c : Nat} (hl : ∀ m ∈ l, 0 ≤ m ∧ m < 60) (hc : c < 9223372036854775808) : BD l (fun x => Er x (c : Int)) = some (has l c) := by
  refine contains_eq (g := fun m => c.testBit m.toNat) fun x hx => ?_
  obtain ⟨h0, h1⟩ := hl x hx
  unfold Er
  rw [Dn ⟨h0, by omega⟩]
  obtain ⟨k, rfl⟩ := Int.eq_ofNat_of_zero_le h0
  rw [Int.toNat_natCast]
  congr 1
  cases h : c.testBit k with
  | true => exact decide_eq_true ((Jf hc k).2 h)
  | false => exact decide_eq_false fun h2 => by rw [(Jf hc k).1 h2] at h; cases h
theorem Qi {a : Nat} (ha : a < 9223372036854775808) : ∀ (ls : List (List Int)) (k c : Nat), Small ls → k + ls.length ≤ 50 → c < 2 ^ k → Cn (a : Int) ls (k : Int) (c : Int) = some (QX a ls k c : Int)
  | [], k, c, _, _, _ => rfl
  | l :: ls, k, c, hs, hk, hc => by
    have ab : k + 1 + ls.length ≤ 50 := by rw [List.length_cons] at hk; omega
    have aa : c < 9223372036854775808 := Nat.lt_trans hc (Mu (by omega))
    unfold Cn QX
    have ad : Small ls := fun l' hl => hs l' (List.mem_cons_of_mem _ hl)
    have ek : (k : Int) + 1 = ((k + 1 : Nat) : Int) := by omega
    have go : ∀ b : Bool, (b1 (some b) fun k2 => if k2 = true then gd ((0 ≤ (k : Int) ∧ (k : Int) < 64) ∧ C6 (shl 1 (k : Int))) <| Cn (a : Int) ls ((k : Int) + 1) (Oe (c : Int) (shl 1 (k : Int))) else Cn (a : Int) ls ((k : Int) + 1) (c : Int)) = some (QX a ls (k + 1) (if b = true then c ||| 2 ^ k else c) : Int) := fun b => by
      rw [AZ]
      cases b with
      | true =>
        rw [if_pos rfl, if_pos rfl, Dn (SW (by omega)), MF, PS aa (Mu (by omega)), ek]
        exact Qi ha ls (k + 1) _ ad ab (RI hc)
      | false =>
        rw [if_neg (by decide), if_neg (by decide), ek]
        exact Qi ha ls (k + 1) c ad ab (Nat.lt_of_lt_of_le hc (Nat.pow_le_pow_right (by decide) (by omega)))
    rw [Dn ⟨by omega, by omega⟩]
    by_cases h1 : a.testBit k = true
    · rw [if_neg (fun h => (K9 ha k).1 h h1), go false, h1]; rfl
    · rw [if_pos ((K9 ha k).2 h1)]
      simp only [Bool.not_eq_true] at h1
      rw [h1]
      by_cases h2 : (l.length : Int) = 0
      · have h3 : l = [] := List.eq_nil_of_length_eq_zero (by omega)
        rw [if_pos h2, go true, h3]; rfl
      · have h3 : l.isEmpty = false := by cases l with
          | nil => simp at h2
          | cons _ _ => rfl
        rw [if_neg h2, has_eq (hs l (List.mem_cons_self ..)) aa, AZ, go (has l c), h3]
        simp only [Bool.not_false, Bool.true_and, Bool.false_or]
def Wr (ls : List (List Int)) (CJ : List (Int × Int)) : Prop := ∀ (a : Nat) (v : Int), Bm CJ (a : Int) = some v → v = Kx ls a
theorem Ss {ls : List (List Int)} {hs : List (List Int)} {CJ : List (Int × Int)} {a : Nat} (ha : a < 9223372036854775808) (h1 : Small ls) (h2 : ls.length ≤ 50) (hm : Wr ls CJ) : ∃ aa, E8 ls hs CJ (a : Int) = some ((Kx ls a : Int), aa) ∧ Wr ls aa := by
  unfold E8
  cases h : Bm CJ (a : Int) with
  | some v => exact ⟨CJ, by rw [if_pos (show (some v).isSome = true from rfl), ← hm a v h]; rfl, hm⟩
  | none =>
    refine ⟨_, by
      rw [if_neg (by simp), show (0 : Int) = ((0 : Nat) : Int) from rfl, Qi ha ls 0 0 h1 (by omega) (by decide), AZ, QR]; rfl, fun b v hb => ?_⟩
    rw [Uw] at hb
    by_cases he : (a : Int) = (b : Int)
    · rw [if_pos he] at hb
      have : a = b := by omega
      rw [← this]; exact (Option.some.inj hb).symm
    · rw [if_neg he] at hb; exact hm b v hb
theorem UZ {c : Nat} (hc : c < 9223372036854775808) : ∀ (l : List Int) (b : Bool), (∀ m ∈ l, 0 ≤ m ∧ m < 60) → Dp (c : Int) l b = some (b || has l c)
  | [], b, _ => by simp [Dp, has]
  | m :: l, b, h => by
    unfold Dp
    obtain ⟨h0, h1⟩ := h m (List.mem_cons_self ..)
    have ih := UZ hc l
    cases b with
    | true => rw [if_pos rfl, ih true (fun x hx => h x (List.mem_cons_of_mem _ hx))]; simp
    | false =>
      obtain ⟨k, rfl⟩ := Int.eq_ofNat_of_zero_le h0
      rw [if_neg (by decide), Dn ⟨h0, by omega⟩, ih _ (fun x hx => h x (List.mem_cons_of_mem _ hx))]
      have e : decide (Fa (shr (c : Int) (k : Int)) 1 = 1) = c.testBit k := by
        cases h : c.testBit k with
        | true => exact decide_eq_true ((Jf hc k).2 h)
        | false => exact decide_eq_false fun h2 => by rw [(Jf hc k).1 h2] at h; cases h
      rw [e]
      simp [has]
theorem Tg {a : Nat} (ha : a < 9223372036854775808) : ∀ (ls : List (List Int)) (k c : Nat), Small ls → k + ls.length ≤ 50 → c < 2 ^ k → DZ (a : Int) ls (k : Int) (c : Int) = some (QX a ls k c : Int)
  | [], k, c, _, _, _ => rfl
  | l :: ls, k, c, hs, hk, hc => by
    have ad : k + 1 + ls.length ≤ 50 := by rw [List.length_cons] at hk; omega
    have aa : c < 9223372036854775808 := Nat.lt_trans hc (Mu (by omega))
    have ae : Small ls := fun l' hl => hs l' (List.mem_cons_of_mem _ hl)
    have ek : (k : Int) + 1 = ((k + 1 : Nat) : Int) := by omega
    unfold DZ QX
    have e0 : decide ((l.length : Int) = 0) = l.isEmpty := by cases l with
      | nil => rfl
      | cons _ _ => simp only [List.length_cons, List.isEmpty_cons, decide_eq_false_iff_not]; omega
    rw [e0, UZ aa l _ (hs l (List.mem_cons_self ..)), AZ]
    have go : ∀ b : Bool, (b1 (b1 (some b) fun k3 => if k3 = true then gd ((0 ≤ (k : Int) ∧ (k : Int) < 64) ∧ C6 (shl 1 (k : Int))) <| some (Oe (c : Int) (shl 1 (k : Int))) else some (c : Int)) fun ab => DZ (a : Int) ls ((k : Int) + 1) ab) = some (QX a ls (k + 1) (if b = true then c ||| 2 ^ k else c) : Int) := fun b => by
      rw [AZ]
      cases b with
      | true =>
        rw [if_pos rfl, if_pos rfl, Dn (SW (by omega)), AZ, MF, PS aa (Mu (by omega)), ek]
        exact Tg ha ls (k + 1) _ ae ad (RI hc)
      | false =>
        rw [if_neg (by decide), if_neg (by decide), AZ, ek]
        exact Tg ha ls (k + 1) c ae ad (Nat.lt_of_lt_of_le hc (Nat.pow_le_pow_right (by decide) (by omega)))
    by_cases hb : (l.isEmpty || has l c) = true
    · rw [hb, if_pos rfl, Dn ⟨by omega, by omega⟩]
      have e : decide (Fa (shr (a : Int) (k : Int)) 1 = 0) = !a.testBit k := by
        cases h : a.testBit k with
        | true => exact decide_eq_false fun h2 => (K9 ha k).1 h2 h
        | false => exact decide_eq_true ((K9 ha k).2 (by rw [h]; decide))
      rw [e, go]
      simp
    · simp only [Bool.not_eq_true] at hb
      rw [hb, if_neg (by decide), go]
      simp
theorem WU {ls : List (List Int)} {a : Nat} (ha : a < 9223372036854775808) (h1 : Small ls) (h2 : ls.length ≤ 50) : HN ls (a : Int) = some (Kx ls a : Int) := by
  unfold HN
  rw [show (0 : Int) = ((0 : Nat) : Int) from rfl, Tg ha ls 0 0 h1 (by omega) (by decide), AZ]; rfl
def Jj (c : Nat) (m : Int) (k : Nat) : Bool := !(decide (m = 1) && !c.testBit k || decide (m = 2) && c.testBit k)
def LC (c : Nat) : List Int → Nat → Bool
  | [], _ => true
  | m :: ms, k => Jj c m k && LC c ms (k + 1)
def PD (ls : List (List Int)) (ms : List Int) (a : Nat) : Bool := LC (Kx ls a) ms 0
theorem VU {c : Nat} (hc : c < 9223372036854775808) {k : Nat} (hk : k < 60) (m : Int) : (if m = 1 then gd (0 ≤ (k : Int) ∧ (k : Int) < 64) <| if Fa (shr (c : Int) (k : Int)) 1 = 0 then some true else (if m = 2 then gd (0 ≤ (k : Int) ∧ (k : Int) < 64) <| some (decide (Fa (shr (c : Int) (k : Int)) 1 = 1)) else some false)
    else (if m = 2 then gd (0 ≤ (k : Int) ∧ (k : Int) < 64) <| some (decide (Fa (shr (c : Int) (k : Int)) 1 = 1)) else some false)) = some (!Jj c m k) := by
  have hg : 0 ≤ (k : Int) ∧ (k : Int) < 64 := by omega
  rw [Dn hg, Dn hg]
  unfold Jj
  rw [PK hc]
  by_cases h1 : m = 1
  · subst h1
    cases c.testBit k <;> simp
  · by_cases h2 : m = 2
    · subst h2
      cases c.testBit k <;> simp
    · simp [h1, h2]
def Lz (c : Nat) : List Int → Nat → Nat → Nat
  | [], _, w => w
  | m :: ms, k, w => Lz c ms (k + 1) (if Jj c m k = true then w else w ||| 2 ^ k)
theorem QO {c : Nat} (hc : c < 9223372036854775808) : ∀ (ms : List Int) (k w : Nat), k + ms.length ≤ 50 → w < 2 ^ k → C1 (c : Int) ms (k : Int) (w : Int) = some (Lz c ms k w : Int)
  | [], k, w, _, _ => rfl
  | m :: ms, k, w, h, hw => by
    rw [List.length_cons] at h
    unfold C1 Lz
    have aa : w < 9223372036854775808 := Nat.lt_trans hw (Mu (by omega))
    rw [VU hc (by omega) m, AZ, show (k : Int) + 1 = ((k + 1 : Nat) : Int) by omega]
    cases Jj c m k with
    | true =>
      rw [if_neg (by decide), if_pos rfl]
      exact QO hc ms (k + 1) w (by omega) (Nat.lt_of_lt_of_le hw (Nat.pow_le_pow_right (by decide) (by omega)))
    | false =>
      rw [if_pos (by decide), if_neg (by decide), Dn (SW (by omega)), MF, PS aa (Mu (by omega))]
      exact QO hc ms (k + 1) _ (by omega) (RI hw)
theorem Pg (c : Nat) : ∀ (ms : List Int) (k w : Nat), Lz c ms k w = 0 ↔ w = 0 ∧ LC c ms k = true
  | [], k, w => by simp [Lz, LC]
  | m :: ms, k, w => by
    unfold Lz LC
    rw [Pg c ms]
    cases Jj c m k with
    | true => simp
    | false =>
      have : w ||| 2 ^ k ≠ 0 := fun h => by
        have h1 : (w ||| 2 ^ k).testBit k = true := by rw [Nat.testBit_or, Nat.testBit_two_pow_self, Bool.or_true]
        rw [h, Nat.zero_testBit] at h1; cases h1
      simp [this]
theorem UE (c : Nat) (ms : List Int) : decide (((Lz c ms 0 0 : Nat) : Int) = 0) = LC c ms 0 := by
  have hz := Pg c ms 0 0
  by_cases hf : LC c ms 0 = true
  · rw [hf]
    refine decide_eq_true ?_
    rw [hz.2 ⟨rfl, hf⟩]; rfl
  · have h2 : ¬ ((Lz c ms 0 0 : Nat) : Int) = 0 := fun h5 => hf (hz.1 (by omega)).2
    simp only [Bool.not_eq_true] at hf
    rw [hf]
    exact decide_eq_false h2
theorem Vm {ls hs : List (List Int)} {CJ : List (Int × Int)} {h a : Nat} (ha : a < 9223372036854775808) (h1 : Small ls) (h2 : ls.length ≤ 50) (hm : Wr ls CJ) (hh : h < hs.length) (h3 : ∀ ms ∈ hs, ms.length ≤ 50) : ∃ aa, Gd ls hs CJ (h : Int) (a : Int) = some ((Lz (Kx ls a) (hs.getD h []) 0 0 : Int), aa) ∧ Wr ls aa := by
  unfold Gd
  obtain ⟨c2, e, ad⟩ := Ss (hs := hs) ha h1 h2 hm
  refine ⟨c2, ?_, ad⟩
  have ab : hs.getD h [] ∈ hs := by rw [List.getD_eq_getElem?_getD, List.getElem?_eq_getElem hh]; exact List.getElem_mem hh
  rw [e, D0, Q2 [] _ hh, show (0 : Int) = ((0 : Nat) : Int) from rfl, QO (Nat.lt_trans (RK ls a) (Mu (by omega))) _ 0 0 (by have := h3 _ ab; omega) (by decide), AZ]
def OI (ls : List (List Int)) (ms : List Int) (m : Nat) : List Bool := (List.range 64).map fun j => decide (j < m) && PD ls ms j
theorem NV (ls : List (List Int)) (ms : List Int) (m : Nat) : (OI ls ms m).length = 64 := by simp [OI]
theorem UO (ls : List (List Int)) (ms : List Int) : OI ls ms 0 = List.replicate 64 false := by
  unfold OI
  rw [List.eq_replicate_iff]
  simp
theorem UY (ls : List (List Int)) (ms : List Int) {m : Nat} (h : m < 64) : (OI ls ms m).set m (PD ls ms m) = OI ls ms (m + 1) := by
  apply List.ext_getElem?
  intro j
  rw [List.getElem?_set]
  by_cases hj : m = j
  · subst hj
    simp [OI, h]
  · rw [if_neg hj]
    by_cases aa : j < 64
    · simp only [OI, List.getElem?_map, List.getElem?_range aa, Option.map_some]
      have : decide (j < m) = decide (j < m + 1) := by
        by_cases h3 : j < m
        · rw [decide_eq_true h3, decide_eq_true (by omega)]
        · rw [decide_eq_false h3, decide_eq_false (by omega)]
      rw [this]
    · rw [List.getElem?_eq_none (by rw [NV]; omega), List.getElem?_eq_none (by rw [NV]; omega)]
def rowOf (ls : List (List Int)) (ms : List Int) : List Bool := OI ls ms (2 ^ ls.length)
theorem PO {ls hs : List (List Int)} (h : ls.length ≤ 50) : Dk ls hs = some ((2 ^ ls.length : Nat) : Int) := by
  unfold Dk
  rw [Dn (SW (by omega)), MF]
theorem Rh {ls hs : List (List Int)} (h1 : Small ls) (h2 : ls.length ≤ 50) (h3 : ∀ ms ∈ hs, ms.length ≤ 50) {h : Nat} (hh : h < hs.length) : ∀ (fu m : Nat) (CJ : List (Int × Int)), m + fu ≤ 64 → Wr ls CJ →
    ∃ aa, ER ls hs (h : Int) fu (m : Int) CJ (OI ls (hs.getD h []) m) = some (aa, OI ls (hs.getD h []) (m + fu)) ∧ Wr ls aa
  | 0, m, CJ, _, hm => ⟨CJ, rfl, hm⟩
  | fu + 1, m, CJ, hf, hm => by
    unfold ER
    obtain ⟨c2, e, ab⟩ := Vm (a := m) (by omega) h1 h2 hm hh h3
    obtain ⟨c3, e3, ad⟩ := Rh h1 h2 h3 hh fu (m + 1) c2 (by omega) ab
    refine ⟨c3, ?_, ad⟩
    have hd := UE (Kx ls m) (hs.getD h [])
    rw [e, D0, Q2 false _ (by rw [NV]; omega), QR, hd, Int.toNat_natCast, show LC (Kx ls m) (hs.getD h []) 0 = PD ls (hs.getD h []) m from rfl, UY _ _ (by omega), show (m : Int) + 1 = ((m + 1 : Nat) : Int) by omega, e3, show m + 1 + fu = m + (fu + 1) by omega]
theorem Q8 {ls hs : List (List Int)} (h1 : Small ls) (h2 : ls.length ≤ 6) (h3 : ∀ ms ∈ hs, ms.length ≤ 50) : ∀ (tl : List (List Int)) (k : Nat) (CJ : List (Int × Int)) (rows : List (List Bool)), hs.drop k = tl → rows.length + tl.length ≤ 1000 → Wr ls CJ →
    ∃ aa, DN ls hs tl (k : Int) CJ rows = some (aa, rows ++ tl.map (rowOf ls)) ∧ Wr ls aa
  | [], k, CJ, rows, _, _, hm => ⟨CJ, by simp [DN], hm⟩
  | ms :: tl, k, CJ, rows, hd, hl, hm => by
    rw [List.length_cons] at hl
    have hk : k < hs.length := by
      rcases Nat.lt_or_ge k hs.length with h | h
      · exact h
      · rw [List.drop_eq_nil_of_le h] at hd; cases hd
    have hg : hs.getD k [] = ms := by
      rw [List.drop_eq_getElem_cons hk] at hd
      rw [List.getD_eq_getElem?_getD, List.getElem?_eq_getElem hk]
      exact (List.cons.inj hd).1
    have ab : hs.drop (k + 1) = tl := by
      rw [List.drop_eq_getElem_cons hk] at hd
      exact (List.cons.inj hd).2
    have hp : 2 ^ ls.length ≤ 64 := Nat.pow_le_pow_right (n := 2) (by decide) h2
    obtain ⟨c2, e2, ad⟩ := Rh h1 (by omega) h3 hk (2 ^ ls.length) 0 CJ (by omega) hm
    obtain ⟨c3, e3, ae⟩ := Q8 h1 h2 h3 tl (k + 1) c2 (rows ++ [rowOf ls ms]) ab (by simp; omega) ad
    refine ⟨c3, ?_, ae⟩
    unfold DN
    rw [PO (by omega), AZ, Dn ⟨Cf (by omega), Ub (by omega)⟩, ← UO ls (hs.getD k []), show (0 : Int) = ((0 : Nat) : Int) from rfl, Qs, e2, D0, Nat.zero_add]
    rw [KH (by simp; omega), D0, show (k : Int) + 1 = ((k + 1 : Nat) : Int) by omega, hg]
    show DN ls hs tl _ c2 (rows ++ [rowOf ls ms]) = _
    rw [e3]; simp
end Go.Proofs.YtfmapnhfamoecaaGreat.Nt
namespace Go.Proofs.YtfmapnhfamoecaaGreat.Nt
open Go.PL
structure GO (ls hs : List (List Int)) : Prop where
  n1 : 1 ≤ ls.length
  n6 : ls.length ≤ 6
  h1 : 1 ≤ hs.length
  h8 : hs.length ≤ 8
  wid : ∀ ms ∈ hs, ms.length = ls.length
  X9 : ∀ ms ∈ hs, ∀ m ∈ ms, 0 ≤ m ∧ m ≤ 2
  XB : ∀ (i : Nat) l, ls[i]? = some l → ∀ m ∈ l, 0 ≤ m ∧ m < (i : Int)
  nd : ∀ l ∈ ls, l.Nodup
theorem GO.small {ls hs : List (List Int)} (g : GO ls hs) : Small ls := fun l hl m hm => by
  obtain ⟨i, hi, he⟩ := List.getElem_of_mem hl
  have := g.XB i l (by rw [List.getElem?_eq_getElem hi, he]) m hm
  have := g.n6
  omega
theorem GO.XC {ls hs : List (List Int)} (g : GO ls hs) : ∀ ms ∈ hs, ms.length ≤ 50 := fun ms h => by
  rw [g.wid ms h]; have := g.n6; omega
theorem Ut {f : List Int → Option Bool} {g : List Int → Bool} : ∀ (l : List (List Int)) (k : Int), 0 ≤ k → (∀ x ∈ l, f x = some (g x)) → ∃ n, Bu f l k = some n ∧ (0 ≤ n ↔ l.any g = true)
  | [], k, _, _ => ⟨-1, rfl, by simp⟩
  | x :: l, k, hk, h => by
    unfold Bu
    rw [h x (by simp), AZ]
    by_cases hx : g x = true
    · exact ⟨k, by rw [if_pos hx], by simp [hx, hk]⟩
    · obtain ⟨n, h1, h2⟩ := Ut l (k + 1) (by omega) (fun y hy => h y (by simp [hy]))
      exact ⟨n, by rw [if_neg hx]; exact h1, by rw [h2]; simp [hx]⟩
theorem Uv {f : Int → Option Bool} {g : Int → Bool} : ∀ (l : List Int) (k : Int), 0 ≤ k → (∀ x ∈ l, f x = some (g x)) → ∃ n, Bs f l k = some n ∧ (0 ≤ n ↔ l.any g = true)
  | [], k, _, _ => ⟨-1, rfl, by simp⟩
  | x :: l, k, hk, h => by
    unfold Bs
    rw [h x (by simp), AZ]
    by_cases hx : g x = true
    · exact ⟨k, by rw [if_pos hx], by simp [hx, hk]⟩
    · obtain ⟨n, h1, h2⟩ := Uv l (k + 1) (by omega) (fun y hy => h y (by simp [hy]))
      exact ⟨n, by rw [if_neg hx]; exact h1, by rw [h2]; simp [hx]⟩
theorem Lx {n : Int} {b : Bool} (h : 0 ≤ n ↔ b = true) : decide (0 ≤ n) = b := by
  by_cases h3 : 0 ≤ n
  · rw [h.1 h3]; exact decide_eq_true h3
  · have : b = false := by
      cases b with
      | true => exact absurd (h.2 rfl) h3
      | false => rfl
    rw [this]; exact decide_eq_false h3
theorem PR {α : Type} (l : List α) (g : α → Bool) : (!l.any fun x => !g x) = l.all g := by
  induction l with
  | nil => rfl
  | cons x l ih => simp only [List.any_cons, List.all_cons, Bool.not_or, Bool.not_not, ih]
theorem Rf {f : List Int → Option Bool} {g : List Int → Bool} {l : List (List Int)} (h : ∀ x ∈ l, f x = some (g x)) : Dq l f = some (l.all g) := by
  unfold Dq Cg Cw
  obtain ⟨n, h1, h2⟩ := Ut (f := fun x => C0 x f) (g := fun x => !g x) l 0 (Int.le_refl _) (fun x hx => by
    unfold C0; rw [h x hx]; rfl)
  rw [h1, AZ, AZ, Lx h2, PR]
theorem UC {f : Int → Option Bool} {g : Int → Bool} {l : List Int} (h : ∀ x ∈ l, f x = some (g x)) : Gg l f = some (l.all g) := by
  unfold Gg Cb Cq
  obtain ⟨n, h1, h2⟩ := Uv (f := fun x => Es x f) (g := fun x => !g x) l 0 (Int.le_refl _) (fun x hx => by
    unfold Es; rw [h x hx]; rfl)
  rw [h1, AZ, AZ, Lx h2, PR]
theorem Rc {v : Int} : ∀ (l : List Int) (k : Int), 0 ≤ k → ∃ n, CL v l k = some n ∧ (0 ≤ n ↔ decide (v ∈ l) = true)
  | [], k, _ => ⟨-1, rfl, by simp⟩
  | x :: l, k, hk => by
    unfold CL
    by_cases hx : v = x
    · exact ⟨k, by rw [if_pos hx], by simp [hx, hk]⟩
    · obtain ⟨n, h1, h2⟩ := Rc (v := v) l (k + 1) (by omega)
      refine ⟨n, by rw [if_neg hx]; exact h1, ?_⟩
      rw [h2]; simp [hx]
theorem R1 (l : List Int) (v : Int) : Cm l v = some (decide (v ∈ l)) := by
  unfold Cm FD
  obtain ⟨n, h1, h2⟩ := Rc (v := v) l 0 (Int.le_refl _)
  rw [h1, AZ, Lx h2]
theorem SO {k2 : Nat} {x : List Int} {rec2 : Int → Option Int} (hk : k2 ≤ 1000) (hx : ∀ m ∈ x, 0 ≤ m ∧ m < (k2 : Int)) (hn : x.Nodup) : ∀ (tl pre : List Int), x = pre ++ tl → pre.length + tl.length ≤ 1000000 → Ff (k2 : Int) x rec2 tl (pre.length : Int) = rec2 ((k2 : Int) + 1)
  | [], pre, _, _ => rfl
  | m :: tl, pre, he, hl => by
    unfold Ff
    rw [List.length_cons] at hl
    have hm : m ∈ x := by rw [he]; simp
    obtain ⟨h0, h1⟩ := hx m hm
    have aa : sl x 0 (pre.length : Int) = pre := by unfold sl; rw [he]; simp
    have ab : ¬ m ∈ pre := fun h => by
      rw [he, List.nodup_append] at hn
      exact hn.2.2 m h m (List.mem_cons_self ..) rfl
    rw [Dn (Cf (by omega)), Pr, AZ, if_neg (by simp; omega), Dn ⟨⟨by omega, by omega⟩, by rw [he, List.length_append]; omega⟩, QR, aa, R1, AZ, if_neg (by simp [ab])]
    have := SO (rec2 := rec2) hk hx hn tl (pre ++ [m]) (by rw [he]; simp) (by simp; omega)
    rw [show ((pre ++ [m]).length : Int) = (pre.length : Int) + 1 by simp] at this
    exact this
theorem SJ {hs : List (List Int)} : ∀ (tl : List (List Int)) (k : Nat), k + tl.length ≤ 1000 → (∀ l ∈ tl, l.length ≤ 1000) → (∀ (i : Nat) l, tl[i]? = some l → ∀ m ∈ l, 0 ≤ m ∧ m < ((k + i : Nat) : Int)) → (∀ l ∈ tl, l.Nodup) → DL hs tl (k : Int) = Hh hs
  | [], k, _, _, _, _ => rfl
  | l :: tl, k, hk, hl, hm, hn => by
    rw [List.length_cons] at hk
    unfold DL
    have h4 := SO (rec2 := DL hs tl) (x := l) (show k ≤ 1000 by omega) (hm 0 l rfl) (hn l (List.mem_cons_self ..)) l [] rfl (by have := hl l (List.mem_cons_self ..); simp; omega)
    rw [show (([] : List Int).length : Int) = 0 from rfl] at h4
    rw [h4, show (k : Int) + 1 = ((k + 1 : Nat) : Int) by omega]
    exact SJ tl (k + 1) (by omega) (fun l aa => hl l (List.mem_cons_of_mem _ aa)) (fun i l' hi => by
      have := hm (i + 1) l' (by simpa using hi)
      rwa [show k + (i + 1) = k + 1 + i by omega] at this) (fun l aa => hn l (List.mem_cons_of_mem _ aa))
theorem MR : ∀ (n : Nat) (l : List Int), l.Nodup → (∀ m ∈ l, 0 ≤ m ∧ m < (n : Int)) → l.length ≤ n
  | 0, l, _, h => by
    cases l with
    | nil => simp
    | cons x l => have := h x (List.mem_cons_self ..); omega
  | n + 1, l, hn, h => by
    by_cases hm : (n : Int) ∈ l
    · have := MR n (l.erase n) (hn.erase _) (fun m aa => by
        have h1 := (hn.mem_erase_iff).1 aa
        have h2 := h m h1.2
        have h3 := h1.1
        omega)
      rw [List.length_erase_of_mem hm] at this
      omega
    · have := MR n l hn (fun m aa => by
        have h2 := h m aa
        have h3 : m ≠ n := fun he => hm (he ▸ aa)
        omega)
      omega
theorem SI {ls hs : List (List Int)} (g : GO ls hs) : Ic ls hs = some 0 := by
  have := g.n1; have := g.n6; have := g.h1; have := g.h8
  unfold Ic
  rw [Pr, AZ, if_neg (by simp; omega), Pr, AZ, if_neg (by simp; omega), Rf (f := fun x => HH x (ls.length : Int)) (g := fun l => decide ((l.length : Int) = (ls.length : Int))) (fun _ _ => rfl), AZ, AZ, if_neg, show (0 : Int) = ((0 : Nat) : Int) from rfl,
    SJ ls 0 (by omega) (fun l hl => ?_) (fun i l hi m hm => by rw [Nat.zero_add]; exact g.XB i l hi m hm) g.nd]
  · unfold Hh
    rw [Rf (f := fun x => GG x) (g := fun l => l.all fun m => decide (0 ≤ m ∧ m ≤ 2)), AZ, if_neg]
    · rfl
    · have : (hs.all fun l => l.all fun m => decide (0 ≤ m ∧ m ≤ 2)) = true := by
        rw [List.all_eq_true]; intro l hl
        rw [List.all_eq_true]; intro m hm
        exact decide_eq_true (g.X9 l hl m hm)
      rw [this]; decide
    · intro l _
      unfold GG
      rw [UC (f := fun x => DX x) (g := fun m => decide (0 ≤ m ∧ m ≤ 2)), AZ]
      intro m _
      unfold DX
      rw [Pr]; rfl
  · obtain ⟨i, hi, he⟩ := List.getElem_of_mem hl
    have := MR i l (g.nd l hl) (g.XB i l (by rw [List.getElem?_eq_getElem hi, he]))
    omega
  · have : (hs.all fun l => decide ((l.length : Int) = (ls.length : Int))) = true := by
      rw [List.all_eq_true]; intro l hl
      exact decide_eq_true (by rw [g.wid l hl])
    rw [this]; decide
theorem Rl {ls hs : List (List Int)} (g : GO ls hs) : ∃ CJ, Ht ls hs = some (some (ls, hs, CJ, hs.map (rowOf ls)), 0) ∧ Wr ls CJ := by
  have := g.h8
  obtain ⟨c, h1, h2⟩ := Q8 g.small g.n6 g.XC hs 0 [] [] rfl (by simp; omega) (fun a v h => by rw [VJ] at h; cases h)
  refine ⟨c, ?_, h2⟩
  unfold Ht
  rw [SI g, AZ, if_neg (by decide), show (0 : Int) = ((0 : Nat) : Int) from rfl, h1, D0, List.nil_append]
theorem Rm (x : Int) : 0 ≤ Qu 32 x 65535 ∧ Qu 32 x 65535 ≤ 65535 := by
  unfold Qu
  rw [BitVec.toNat_and]
  have h : (BitVec.ofInt 32 x).toNat &&& (BitVec.ofInt 32 65535).toNat ≤ (BitVec.ofInt 32 65535).toNat := Nat.and_le_right
  have e : (BitVec.ofInt 32 65535).toNat = 65535 := by decide
  rw [e] at h ⊢
  omega
def Gz (metal : List Int) (a : Int) : Prop := 0 ≤ a ∧ a ≤ metal.length
section
variable {metal : List Int}
theorem V9 {a t : Int} (h : Gz metal a) (hm : (metal.length : Int) ≤ 9223372036854775807) : ∃ v a' t', Fx metal a t = some (v, a', t') ∧ (0 ≤ v ∧ v ≤ 65535) ∧ Gz metal a' := by
  unfold Gz at h ⊢
  unfold Fx
  have e : ∃ b u, (if a = (metal.length : Int) then some ((0 : Int), (t + 1) % 4294967296) else some (a, t)) = some (b, u) ∧ 0 ≤ b ∧ (0 < (metal.length : Int) → b < metal.length) ∧ b ≤ metal.length := by
    by_cases h1 : a = (metal.length : Int)
    · exact ⟨_, _, if_pos h1, by omega, fun h => h, by omega⟩
    · exact ⟨_, _, if_neg h1, by omega, fun _ => by omega, by omega⟩
  obtain ⟨b, u, e1, e2, e3, e4⟩ := e
  rw [e1, D0, QR]
  by_cases h2 : 0 < (metal.length : Int)
  · have h3 := e3 h2
    rw [if_pos h2, XM (x := metal.getD b.toNat 0) e2 (Um (by omega)), QR, Dn (by unfold C6; omega), D0]
    generalize Q9 32 _ _ = z
    have hz := Rm z
    rw [Dn (Cf (by omega))]
    exact ⟨_, _, _, rfl, hz, by omega, by omega⟩
  · rw [if_neg h2, D0]
    generalize Q9 32 _ _ = z
    have hz := Rm z
    rw [Dn (Cf (by omega))]
    exact ⟨_, _, _, rfl, hz, by omega, by omega⟩
theorem Rk {a t n : Int} (h : Gz metal a) (hm : (metal.length : Int) ≤ 9223372036854775807) (hn : -1000000 ≤ n ∧ n ≤ 1000000) : ∃ v a' t', Ee metal a t n = some (v, a', t') ∧ 0 ≤ v ∧ (v ≤ n ∨ v = 0) ∧ Gz metal a' := by
  unfold Ee
  obtain ⟨v, a', t', h1, h2, h3⟩ := V9 (t := t) h hm
  rw [h1, D6, Dn (Cf (by omega)), Dn (by split <;> omega)]
  refine ⟨_, _, _, rfl, ?_, ?_, h3⟩
  · exact Int.tmod_nonneg _ h2.1
  · have aa : 0 < (if n + 1 > 1 then n + 1 else 1) := by split <;> omega
    rw [Int.tmod_eq_emod_of_nonneg h2.1]
    have ab := Int.emod_lt_of_pos v aa
    have ad := Int.emod_nonneg v (Int.ne_of_gt aa)
    generalize v % (if n + 1 > 1 then n + 1 else 1) = z at ab ad
    split at ab <;> omega
theorem Q6 {a t lo hi : Int} (h : Gz metal a) (hm : (metal.length : Int) ≤ 9223372036854775807) (hl : -1000 ≤ lo ∧ lo ≤ 1000) (hh : -1000 ≤ hi ∧ hi ≤ 1000) : ∃ v a' t', Eb metal a t lo hi = some (v, a', t') ∧ lo ≤ v ∧ (v ≤ hi ∨ v = lo) ∧ Gz metal a' := by
  unfold Eb
  obtain ⟨v, a', t', h1, h2, h3, h4⟩ := Rk (t := t) (n := hi - lo) h hm (by omega)
  rw [Dn (Cf (by omega)), h1, D6, Dn (Cf (by omega))]
  exact ⟨_, _, _, rfl, by omega, by omega, h4⟩
theorem MG {a t n : Int} (h : Gz metal a) (hm : (metal.length : Int) ≤ 9223372036854775807) (hn : 0 ≤ n ∧ n ≤ 1000) : ∃ v a' t', CG metal a t n = some (v, a', t') ∧ Gz metal a' := by
  unfold CG
  obtain ⟨v, a', t', h1, h2, h3, h4⟩ := Rk (t := t) (n := n - 1) h hm (by omega)
  rw [Dn (Cf (by omega)), h1, D6]
  exact ⟨_, _, _, rfl, h4⟩
theorem RL (hm : (metal.length : Int) ≤ 9223372036854775807) : ∀ (fu k : Nat) (a t : Int) (l : List Int), Gz metal a → l.length ≤ k → k + fu ≤ 1000 → l.Nodup → (∀ m ∈ l, 0 ≤ m ∧ m < (k : Int)) →
    ∃ a' t' l', DG metal fu (k : Int) a t l = some (a', t', l') ∧ Gz metal a' ∧ l'.length ≤ k + fu ∧ l'.Nodup ∧ (∀ m ∈ l', 0 ≤ m ∧ m < ((k + fu : Nat) : Int))
  | 0, k, a, t, l, ha, h1, _, h3, h4 => ⟨a, t, l, rfl, ha, by omega, h3, h4⟩
  | fu + 1, k, a, t, l, ha, h1, h2, h3, h4 => by
    unfold DG
    obtain ⟨b, a1, t1, e1, g1⟩ := MG (t := t) (n := 2) ha hm (by omega)
    rw [e1, D6, show (k : Int) + 1 = ((k + 1 : Nat) : Int) by omega, show k + (fu + 1) = k + 1 + fu by omega]
    cases b with
    | true =>
      rw [if_pos rfl, KH (by simp; omega)]
      refine RL hm fu (k + 1) a1 t1 (l ++ [(k : Int)]) g1 (by simp; omega) (by omega) ?_ ?_
      · rw [List.nodup_append]
        refine ⟨h3, by simp, fun x hx y hy he => ?_⟩
        rw [List.mem_singleton] at hy
        have := h4 x hx
        omega
      · intro m aa
        rcases List.mem_append.1 aa with h | h
        · have := h4 m h; omega
        · rw [List.mem_singleton] at h; omega
    | false =>
      rw [if_neg (by decide)]
      exact RL hm fu (k + 1) a1 t1 l g1 (by omega) (by omega) h3 (fun m aa => by have := h4 m aa; omega)
theorem TO (hm : (metal.length : Int) ≤ 9223372036854775807) : ∀ (fu : Nat) (a t : Int) (ls : List (List Int)), Gz metal a → ls.length + fu ≤ 100 → (∀ (i : Nat) l, ls[i]? = some l → ∀ m ∈ l, 0 ≤ m ∧ m < (i : Int)) → (∀ l ∈ ls, l.Nodup) →
    ∃ a' t' af, D3 metal fu (ls.length : Int) a t ls = some (a', t', af) ∧ Gz metal a' ∧ af.length = ls.length + fu ∧ (∀ (i : Nat) l, af[i]? = some l → ∀ m ∈ l, 0 ≤ m ∧ m < (i : Int)) ∧ (∀ l ∈ af, l.Nodup)
  | 0, a, t, ls, ha, _, h3, h4 => ⟨a, t, ls, rfl, ha, rfl, h3, h4⟩
  | fu + 1, a, t, ls, ha, h2, h3, h4 => by
    unfold D3
    obtain ⟨a1, t1, l, e1, g1, g2, g3, g4⟩ := RL hm ls.length 0 a t [] ha (by simp) (by omega) (by simp) (by simp)
    rw [Nat.zero_add] at g2 g4
    rw [Dn ⟨Cf (by omega), Cf (by omega)⟩, Mz, show (0 : Int) = ((0 : Nat) : Int) from rfl, e1, D6]
    have key : ∃ a2 t2 l2, (b3 (b3 (if ((0 : Nat) : Int) < (ls.length : Int) then (if (l.length : Int) = ((0 : Nat) : Int) then b3 (CG metal a1 t1 4) fun ak aj ah => some (aj, ah, !ak) else some (a1, t1, false)) else some (a1, t1, false)) fun ad aa k3 => if k3 = true then gd (C6 ((ls.length : Int) - 1)) <| ap l [(ls.length : Int) - 1] fun l5 => some (ad, aa, l5) else some (ad, aa, l)) fun ae ab l4 => ap ls [l4] fun w => some (ae, ab, w)) = some (a2, t2, ls ++ [l2]) ∧ Gz metal a2 ∧ l2.Nodup ∧ ∀ m ∈ l2, 0 ≤ m ∧ m < (ls.length : Int) := by
      have fin : ∀ (a2 t2 : Int) (b : Bool), Gz metal a2 → (b = true → 0 < ls.length ∧ l = []) → ∃ a3 t3 l2, (b3 (b3 (some (a2, t2, b)) fun ad aa k3 => if k3 = true then gd (C6 ((ls.length : Int) - 1)) <| ap l [(ls.length : Int) - 1] fun l5 => some (ad, aa, l5) else some (ad, aa, l)) fun ae ab l4 => ap ls [l4] fun w => some (ae, ab, w)) = some (a3, t3, ls ++ [l2]) ∧ Gz metal a3 ∧ l2.Nodup ∧ ∀ m ∈ l2, 0 ≤ m ∧ m < (ls.length : Int) := fun a2 t2 b hb al => by
        rw [D6]
        cases b with
        | true =>
          obtain ⟨q1, rfl⟩ := al rfl
          rw [if_pos rfl, Dn (Cf (by omega)), KH (by simp), D6, KH (by simp; omega)]
          exact ⟨_, _, _, rfl, hb, by simp, fun m ai => by simp at ai; omega⟩
        | false =>
          rw [if_neg (by decide), D6, KH (by simp; omega)]
          exact ⟨_, _, _, rfl, hb, g3, g4⟩
      by_cases q1 : ((0 : Nat) : Int) < (ls.length : Int)
      · rw [if_pos q1]
        by_cases q2 : (l.length : Int) = ((0 : Nat) : Int)
        · obtain ⟨b, a2, t2, e2, g5⟩ := MG (t := t1) (n := 4) g1 hm (by omega)
          rw [if_pos q2, e2, D6]
          exact fin a2 t2 (!b) g5 (fun _ => ⟨by omega, List.eq_nil_of_length_eq_zero (by omega)⟩)
        · rw [if_neg q2]; exact fin a1 t1 false g1 (fun h => nomatch h)
      · rw [if_neg q1]; exact fin a1 t1 false g1 (fun h => nomatch h)
    obtain ⟨a2, t2, l2, e2, k1, k2, k3⟩ := key
    rw [e2, D6]
    obtain ⟨a3, t3, af, e3, r1, r2, r3, r4⟩ := TO hm fu a2 t2 (ls ++ [l2]) k1 (by simp; omega) (fun i l' hi m ai => by
      rw [List.getElem?_append] at hi
      split at hi
      · exact h3 i l' hi m ai
      · rename_i aq
        have h0 : i - ls.length = 0 := by
          rcases Nat.eq_zero_or_pos (i - ls.length) with h | h
          · exact h
          · rw [List.getElem?_eq_none (by simp; omega)] at hi; cases hi
        rw [h0] at hi
        simp at hi; subst hi
        have := k3 m ai
        omega) (fun l' ao => by
      rcases List.mem_append.1 ao with h | h
      · exact h4 l' h
      · rw [List.mem_singleton] at h; rw [h]; exact k2)
    refine ⟨a3, t3, af, ?_, r1, by rw [r2]; simp; omega, r3, r4⟩
    rw [← e3]; simp
theorem RD (hm : (metal.length : Int) ≤ 9223372036854775807) {n : Nat} (hn : n ≤ 50) : ∀ (tl : List (List Int)) (k : Nat) (a t : Int) (s : Nat), Gz metal a → k + tl.length ≤ n → s < 2 ^ n →
    ∃ a' t' s', DE metal tl (k : Int) a t (s : Int) = some (a', t', ((s' : Nat) : Int)) ∧ Gz metal a' ∧ s' < 2 ^ n
  | [], k, a, t, s, ha, _, hs => ⟨a, t, s, rfl, ha, hs⟩
  | l :: tl, k, a, t, s, ha, hk, hs => by
    rw [List.length_cons] at hk
    unfold DE
    obtain ⟨b, a1, t1, e1, g1⟩ := MG (t := t) (n := 4) ha hm (by omega)
    rw [e1, D6, show (k : Int) + 1 = ((k + 1 : Nat) : Int) by omega]
    cases b with
    | true =>
      rw [if_pos rfl, Dn (SW (by omega)), MF, VG (Nat.lt_trans hs (Mu (by omega))) (Mu (by omega))]
      exact RD hm hn tl (k + 1) a1 t1 _ g1 (by omega) (Nat.xor_lt_two_pow hs (Nat.pow_lt_pow_right (by decide) (by omega)))
    | false =>
      rw [if_neg (by decide)]
      exact RD hm hn tl (k + 1) a1 t1 s g1 (by omega) hs
theorem SK (c : Nat) : ∀ (ms : List Int) (m : Int) (k : Nat), LC c (ms ++ [m]) k = (LC c ms k && Jj c m (k + ms.length))
  | [], m, k => by simp [LC]
  | x :: ms, m, k => by
    rw [List.cons_append]
    unfold LC
    rw [SK c ms m (k + 1), List.length_cons, show k + 1 + ms.length = k + (ms.length + 1) by omega, Bool.and_assoc]
theorem TM (hm : (metal.length : Int) ≤ 9223372036854775807) {c : Nat} (hc : c < 9223372036854775808) : ∀ (tl : List (List Int)) (a t : Int) (ms : List Int), Gz metal a → ms.length + tl.length ≤ 50 → (∀ m ∈ ms, 0 ≤ m ∧ m ≤ 2) → LC c ms 0 = true →
    ∃ a' t' aa, DC metal (c : Int) tl (ms.length : Int) a t ms = some (a', t', aa) ∧ Gz metal a' ∧ aa.length = ms.length + tl.length ∧ (∀ m ∈ aa, 0 ≤ m ∧ m ≤ 2) ∧ LC c aa 0 = true
  | [], a, t, ms, ha, _, h1, h2 => ⟨a, t, ms, rfl, ha, rfl, h1, h2⟩
  | l :: tl, a, t, ms, ha, hk, h1, h2 => by
    rw [List.length_cons] at hk
    unfold DC
    obtain ⟨b, a1, t1, e1, g1⟩ := MG (t := t) (n := 3) ha hm (by omega)
    have ad : ∃ m : Int, (if Fa (shr (c : Int) (ms.length : Int)) 1 = 1 then some (1 : Int) else some 2) = some m ∧ (m = 1 ∨ m = 2) ∧ Jj c m ms.length = true := by
      by_cases h : c.testBit ms.length = true
      · exact ⟨1, if_pos ((Jf hc _).2 h), .inl rfl, by unfold Jj; rw [h]; rfl⟩
      · refine ⟨2, if_neg (fun h' => h ((Jf hc _).1 h')), .inr rfl, ?_⟩
        simp only [Bool.not_eq_true] at h
        unfold Jj; rw [h]; rfl
    obtain ⟨m, e2, g2, g3⟩ := ad
    have hz : Jj c 0 ms.length = true := rfl
    rw [Dn ⟨by omega, by omega⟩, e2, AZ, e1, D6]
    have go : ∀ x : Int, (0 ≤ x ∧ x ≤ 2) → Jj c x ms.length = true → ∃ a' t' aa, (ap ms [x] fun ab => DC metal (c : Int) tl ((ms.length : Int) + 1) a1 t1 ab) = some (a', t', aa) ∧ Gz metal a' ∧ aa.length = ms.length + (tl.length + 1) ∧ (∀ m ∈ aa, 0 ≤ m ∧ m ≤ 2) ∧ LC c aa 0 = true := fun x hx ae => by
      rw [KH (by simp; omega)]
      obtain ⟨a2, t2, aa, r1, r2, r3, r4, r5⟩ := TM hm hc tl a1 t1 (ms ++ [x]) g1 (by simp; omega) (fun y hy => by
        rcases List.mem_append.1 hy with h | h
        · exact h1 y h
        · rw [List.mem_singleton] at h; rw [h]; exact hx) (by rw [SK, h2, Nat.zero_add, ae]; rfl)
      refine ⟨a2, t2, aa, ?_, r2, by rw [r3]; simp; omega, r4, r5⟩
      rw [← r1]; simp
    cases b with
    | true => rw [if_pos rfl, D6]; exact go 0 (by omega) hz
    | false => rw [if_neg (by decide), D6]; exact go m (by omega) g3
def JA (ls : List (List Int)) : List (List Int) → List Nat → Prop
  | [], [] => True
  | ms :: hs, a :: s => (a < 2 ^ ls.length ∧ PD ls ms a = true) ∧ JA ls hs s
  | _, _ => False
theorem JA.len {ls : List (List Int)} : ∀ {hs : List (List Int)} {s : List Nat}, JA ls hs s → s.length = hs.length
  | [], [], _ => rfl
  | _ :: _, _ :: _, h => by rw [List.length_cons, List.length_cons, JA.len h.2]
  | [], _ :: _, h => h.elim
  | _ :: _, [], h => h.elim
theorem JA.snoc {ls : List (List Int)} {ms : List Int} {a : Nat} (h2 : a < 2 ^ ls.length ∧ PD ls ms a = true) : ∀ {hs : List (List Int)} {s : List Nat}, JA ls hs s → JA ls (hs ++ [ms]) (s ++ [a])
  | [], [], _ => ⟨h2, trivial⟩
  | _ :: _, _ :: _, h => ⟨h.1, JA.snoc h2 h.2⟩
  | [], _ :: _, h => h.elim
  | _ :: _, [], h => h.elim
def K5 (s : List Nat) : List Int := s.map fun x : Nat => (x : Int)
theorem TL (hm : (metal.length : Int) ≤ 9223372036854775807) {ls : List (List Int)} (h1 : Small ls) (h2 : ls.length ≤ 6) : ∀ (fu : Nat) (a t : Int) (hs : List (List Int)) (s : Nat) (real : List Nat), Gz metal a → hs.length + fu ≤ 100 → s < 2 ^ ls.length → JA ls hs real → (∀ ms ∈ hs, ms.length = ls.length) → (∀ ms ∈ hs, ∀ m ∈ ms, 0 ≤ m ∧ m ≤ 2) →
    ∃ ab aa a' t', Ea metal ls fu a t hs (s : Int) (K5 real) = some (ab, K5 aa, a', t') ∧ Gz metal a' ∧ ab.length = hs.length + fu ∧ JA ls ab aa ∧ (∀ ms ∈ ab, ms.length = ls.length) ∧ (∀ ms ∈ ab, ∀ m ∈ ms, 0 ≤ m ∧ m ≤ 2)
  | 0, a, t, hs, s, real, ha, _, _, he, hw, hk => ⟨hs, real, a, t, rfl, ha, rfl, he, hw, hk⟩
  | fu + 1, a, t, hs, s, real, ha, hl, ae, he, hw, hk => by
    unfold Ea
    obtain ⟨a1, t1, s1, e1, g1, g2⟩ := RD hm (n := ls.length) (by omega) ls 0 a t s ha (by omega) ae
    have ad : s1 < 9223372036854775808 := Nat.lt_trans g2 (Mu (by omega))
    obtain ⟨a2, t2, ms, e2, g3, g4, g5, g6⟩ := TM hm (c := Kx ls s1) (Nat.lt_trans (RK ls s1) (Mu (by omega))) ls a1 t1 [] g1 (by simp; omega) (by simp) rfl
    simp only [List.length_nil, Nat.zero_add] at g4 e2
    have af := he.len
    rw [show (0 : Int) = ((0 : Nat) : Int) from rfl, e1, D6, WU ad h1 (by omega), AZ, e2, D6, KH (by simp; omega), KH (by simp [K5]; omega), TY]
    have en : K5 real ++ [(s1 : Int)] = K5 (real ++ [s1]) := by simp [K5]
    rw [en]
    obtain ⟨ab, aa, a', t', r1, r2, r3, r4, r5, r6⟩ := TL hm h1 h2 fu a2 t2 (hs ++ [ms]) s1 (real ++ [s1]) g3 (by simp; omega) g2 (JA.snoc ⟨g2, g6⟩ he) (fun x hx => by
      rcases List.mem_append.1 hx with h | h
      · exact hw x h
      · rw [List.mem_singleton] at h; rw [h]; exact g4) (fun x hx => by
      rcases List.mem_append.1 hx with h | h
      · exact hk x h
      · rw [List.mem_singleton] at h; rw [h]; exact g5)
    exact ⟨ab, aa, a', t', r1, r2, by rw [r3]; simp; omega, r4, r5, r6⟩
theorem VT {a t men hours : Int} (ha : Gz metal a) (hm : (metal.length : Int) ≤ 9223372036854775807) (h1 : 1 ≤ men ∧ men ≤ 6) (h2 : 1 ≤ hours ∧ hours ≤ 8) :
    ∃ ls hs real a' t', Hj metal a t men hours = some (ls, hs, K5 real, a', t') ∧ GO ls hs ∧ JA ls hs real ∧ (ls.length : Int) ≤ men ∧ (hs.length : Int) ≤ hours ∧ Gz metal a' := by
  unfold Hj
  obtain ⟨n, a1, t1, e1, g1, g2, g3⟩ := Q6 (t := t) (lo := 1) (hi := men) ha hm (by omega) (by omega)
  obtain ⟨n, rfl⟩ := Int.eq_ofNat_of_zero_le (show 0 ≤ n by omega)
  rw [e1, D6, Dn ⟨Cf (by omega), Cf (by omega)⟩, Mz]
  obtain ⟨a2, t2, ls, e2, k1, k2, k3, k4⟩ := TO hm n a1 t1 [] g3 (by simp; omega) (by simp) (by simp)
  simp only [List.length_nil, Nat.zero_add] at e2 k2
  rw [show (0 : Int) = ((0 : Nat) : Int) from rfl, e2, D6]
  obtain ⟨m, a3, t3, e3, f1, f2, f3⟩ := Q6 (t := t2) (lo := 1) (hi := hours) k1 hm (by omega) (by omega)
  obtain ⟨m, rfl⟩ := Int.eq_ofNat_of_zero_le (show 0 ≤ m by omega)
  have aa : Small ls := fun l hl x hx => by
    obtain ⟨i, hi, he⟩ := List.getElem_of_mem hl
    have := k3 i l (by rw [List.getElem?_eq_getElem hi, he]) x hx
    omega
  obtain ⟨hs, real, a4, t4, e4, r1, r2, r3, r4, r5⟩ := TL hm aa (by omega) m a3 t3 [] 0 [] f3 (by simp; omega) (Nat.pow_pos (by decide)) trivial (by simp) (by simp)
  simp only [List.length_nil, Nat.zero_add] at r2
  rw [e3, D6, Dn ⟨Cf (by omega), Cf (by omega)⟩, Qs]
  refine ⟨ls, hs, real, a4, t4, ?_, ⟨by omega, by omega, by omega, by omega, r4, r5, k3, k4⟩, r3, by omega, by omega, r1⟩
  rw [show ([] : List Int) = K5 [] from rfl, e4, IG]
end
end Go.Proofs.YtfmapnhfamoecaaGreat.Nt
namespace Go.Proofs.YtfmapnhfamoecaaGreat.Nt
open Go.PL
theorem WW {a p : Nat} (h : a < p) : ¬ ((!decide (0 ≤ (a : Int) ∧ (a : Int) ≤ (p : Int) - 1)) = true) := by simp; omega
theorem IA {n : Nat} (h : n ≤ 6) : 2 ^ n ≤ 64 := Nat.pow_le_pow_right (n := 2) (by decide) h
theorem RV {a n : Nat} (ha : a < 2 ^ n) (hn : n ≤ 6) : a < 9223372036854775808 := by have := IA hn; omega
theorem Vt {ls hs : List (List Int)} (g : GO ls hs) {a : Nat} (ha : a < 2 ^ ls.length) : Jl ls hs (a : Int) = some ((Kx ls a : Int), 0) := by
  obtain ⟨c, h1, h2⟩ := Rl g
  have hp := IA g.n6
  have h6 := g.n6
  obtain ⟨c2, h3, _⟩ := Ss (hs := hs) (RV ha g.n6) g.small (by omega) h2
  unfold Jl
  rw [h1, D0, if_neg (by decide), IG, PO (by omega), AZ, Dn (S5 (by omega)), Pr, AZ, if_neg (WW ha), h3, D0]
theorem Wc {ls hs : List (List Int)} (g : GO ls hs) {h a : Nat} (hh : h < hs.length) (ha : a < 2 ^ ls.length) : ((hs.map (rowOf ls)).getD h []).getD a false = PD ls (hs.getD h []) a := by
  have hp := IA g.n6
  have e : (hs.map (rowOf ls)).getD h [] = rowOf ls (hs.getD h []) := by
    rw [List.getD_eq_getElem?_getD, List.getElem?_map, List.getElem?_eq_getElem hh, List.getD_eq_getElem?_getD, List.getElem?_eq_getElem hh]; rfl
  rw [e]
  unfold rowOf OI
  rw [List.getD_eq_getElem?_getD, List.getElem?_map, List.getElem?_range (by omega)]
  simp [ha]
section
variable {metal : List Int}
end
end Go.Proofs.YtfmapnhfamoecaaGreat.Nt
