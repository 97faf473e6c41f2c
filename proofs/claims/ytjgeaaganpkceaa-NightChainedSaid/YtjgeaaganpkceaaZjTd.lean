/- Plain functions that mirror the code, printed by a program of mine. -/
import Derived.Test.YtjgeaaganpkceaaZjPl
namespace Go.Proofs.Ytjgeaaganpkceaa
open Go.PL
def oyezlaw05_cry_l2 (out2 : Int) : List Int → Bool → Option Bool
  | [], is_2 =>
    some is_2
  | x2 :: tl4, is_2 =>
    if is_2 = true then
    (oyezlaw05_cry_l2 out2 tl4 true)
    else
    (gd (0 ≤ x2 ∧ x2 < 64) <|
    oyezlaw05_cry_l2 out2 tl4 (decide ((band (shr out2 x2) 1) = 1)))
def oyezlaw05_cry_l1 (asleep : Int) : List (List Int) → Int → Int → Option Int
  | [], _k, out2 =>
    some out2
  | x :: tl2, k, out2 =>
    b1 (b1 (oyezlaw05_cry_l2 out2 x (decide ((x.length : Int) = 0))) fun is_ =>
    b1 (if is_ = true then
    (gd (0 ≤ k ∧ k < 64) <|
    some (decide ((band (shr asleep k) 1) = 0)))
    else
    (some false)) fun k3 =>
    if k3 = true then
    (gd ((0 ≤ (k : Int) ∧ (k : Int) < 64) ∧ R64 (shl 1 k)) <|
    some (bor out2 (shl 1 k)))
    else
    (some out2)) fun out3 =>
    oyezlaw05_cry_l1 asleep tl2 (k + 1) out3
def oyezlaw05_cry (listens : List (List Int)) (asleep : Int) : Option Int :=
    b1 (oyezlaw05_cry_l1 asleep listens 0 0) fun out =>
    some out
def oyezkit_Bell_ring (metal : List Int) (at_ : Int) (turn : Int) : Option (Int × Int × Int) :=
    b2 (if at_ = (metal.length : Int) then
    (some (0, (turn + 1) % 4294967296))
    else
    (some (at_, turn))) fun b_at b_turn =>
    bv ((30011 * b_turn) % 4294967296) fun n =>
    b2 (if 0 < (metal.length : Int) then
    (ix metal b_at fun x =>
    bv ((n + ((263 * (x % 4294967296)) % 4294967296)) % 4294967296) fun n3 =>
    gd (R64 (b_at + 1)) <|
    some (n3, b_at + 1))
    else
    (some (n, b_at))) fun n2 b_at2 =>
    gd (R64 (bandK 32 (bxorK 32 n2 (shr n2 7)) 65535)) <|
    some (bandK 32 (bxorK 32 n2 (shr n2 7)) 65535, b_at2, b_turn)
def oyezkit_Bell_Stroke (metal : List Int) (at_ : Int) (turn : Int) (n : Int) : Option (Int × Int × Int) :=
    b3 (oyezkit_Bell_ring metal at_ turn) fun n2 at_2 turn2 =>
    gd (R64 (n + 1)) <|
    gd ((if n + 1 > 1 then n + 1 else 1) ≠ 0) <|
    some (Int.tmod n2 (if n + 1 > 1 then n + 1 else 1), at_2, turn2)
def oyezkit_Bell_Strike (metal : List Int) (at_ : Int) (turn : Int) (lo : Int) (hi : Int) : Option (Int × Int × Int) :=
    gd (R64 (hi - lo)) <|
    b3 (oyezkit_Bell_Stroke metal at_ turn (hi - lo)) fun n at_2 turn2 =>
    gd (R64 (lo + n)) <|
    some (lo + n, at_2, turn2)
def oyezkit_Bell_Seldom (metal : List Int) (at_ : Int) (turn : Int) (n : Int) : Option (Bool × Int × Int) :=
    gd (R64 (n - 1)) <|
    b3 (oyezkit_Bell_Stroke metal at_ turn (n - 1)) fun n2 at_2 turn2 =>
    some (decide (n2 = 0), at_2, turn2)
def oyezlaw05_Made_l2 (metal : List Int) : Nat → Int → Int → Int → (List Int) → Option (Int × Int × (List Int))
  | 0, _k2, b_at5, b_turn5, l2 =>
    some (b_at5, b_turn5, l2)
  | fu2 + 1, k2, b_at5, b_turn5, l2 =>
    b3 (oyezkit_Bell_Seldom metal b_at5 b_turn5 2) fun ok at_3 turn3 =>
    if ok = true then
    (ap l2 [k2] fun l3 =>
    oyezlaw05_Made_l2 metal fu2 (k2 + 1) at_3 turn3 l3)
    else
    (oyezlaw05_Made_l2 metal fu2 (k2 + 1) at_3 turn3 l2)
def oyezlaw05_Made_l1 (metal : List Int) : Nat → Int → Int → Int → (List (List Int)) → Option (Int × Int × (List (List Int)))
  | 0, _k, b_at2, b_turn2, w_listens2 =>
    some (b_at2, b_turn2, w_listens2)
  | fu1 + 1, k, b_at2, b_turn2, w_listens2 =>
    b3 (b3 (gd (R64 0 ∧ R64 k) <|
    oyezlaw05_Made_l2 metal (Int.toNat (k - 0)) 0 b_at2 b_turn2 []) fun b_at4 b_turn4 l =>
    b3 (b3 (if 0 < k then
    (if (l.length : Int) = 0 then
    (b3 (oyezkit_Bell_Seldom metal b_at4 b_turn4 4) fun ok2 at_4 turn4 =>
    some (at_4, turn4, !ok2))
    else
    (some (b_at4, b_turn4, false)))
    else
    (some (b_at4, b_turn4, false))) fun b_at7 b_turn7 k3 =>
    if k3 = true then
    (gd (R64 (k - 1)) <|
    ap l [k - 1] fun l5 =>
    some (b_at7, b_turn7, l5))
    else
    (some (b_at7, b_turn7, l))) fun b_at6 b_turn6 l4 =>
    ap w_listens2 [l4] fun w =>
    some (b_at6, b_turn6, w)) fun b_at3 b_turn3 w_listens3 =>
    oyezlaw05_Made_l1 metal fu1 (k + 1) b_at3 b_turn3 w_listens3
def oyezlaw05_Made_l4 (metal : List Int) : List (List Int) → Int → Int → Int → Int → Option (Int × Int × Int)
  | [], _k5, b_at12, b_turn12, asleep4 =>
    some (b_at12, b_turn12, asleep4)
  | _x :: tl2, k5, b_at12, b_turn12, asleep4 =>
    b3 (oyezkit_Bell_Seldom metal b_at12 b_turn12 4) fun ok3 at_6 turn6 =>
    if ok3 = true then
    (gd ((0 ≤ (k5 : Int) ∧ (k5 : Int) < 64) ∧ R64 (shl 1 k5)) <|
    oyezlaw05_Made_l4 metal tl2 (k5 + 1) at_6 turn6 (bxor asleep4 (shl 1 k5)))
    else
    (oyezlaw05_Made_l4 metal tl2 (k5 + 1) at_6 turn6 asleep4)
def oyezlaw05_Made_l5 (metal : List Int) (n3 : Int) : List (List Int) → Int → Int → Int → (List Int) → Option (Int × Int × (List Int))
  | [], _k6, b_at14, b_turn14, marks2 =>
    some (b_at14, b_turn14, marks2)
  | _x2 :: tl4, k6, b_at14, b_turn14, marks2 =>
    b1 (gd (0 ≤ k6 ∧ k6 < 64) <|
    if (band (shr n3 k6) 1) = 1 then
    (some 1)
    else
    (some 2)) fun m =>
    b3 (b3 (oyezkit_Bell_Seldom metal b_at14 b_turn14 3) fun ok4 at_7 turn7 =>
    if ok4 = true then
    (some (at_7, turn7, 0))
    else
    (some (at_7, turn7, m))) fun b_at15 b_turn15 m2 =>
    ap marks2 [m2] fun marks3 =>
    oyezlaw05_Made_l5 metal n3 tl4 (k6 + 1) b_at15 b_turn15 marks3
def oyezlaw05_Made_l3 (metal : List Int) (w_listens : List (List Int)) : Nat → Int → Int → (List (List Int)) → Int → (List Int) → Option ((List (List Int)) × (List Int) × Int × Int)
  | 0, b_at9, b_turn9, w_hours2, _asleep, real2 =>
    some (w_hours2, real2, b_at9, b_turn9)
  | fu3 + 1, b_at9, b_turn9, w_hours2, asleep, real2 =>
    b5 (b3 (oyezlaw05_Made_l4 metal w_listens 0 b_at9 b_turn9 asleep) fun b_at11 b_turn11 asleep3 =>
    b1 (oyezlaw05_cry w_listens asleep3) fun n3 =>
    b3 (oyezlaw05_Made_l5 metal n3 w_listens 0 b_at11 b_turn11 []) fun b_at13 b_turn13 marks =>
    ap w_hours2 [marks] fun w2 =>
    ap real2 [asleep3] fun real4 =>
    some (b_at13, b_turn13, w2, asleep3, real4)) fun b_at10 b_turn10 w_hours3 asleep2 real3 =>
    oyezlaw05_Made_l3 metal w_listens fu3 b_at10 b_turn10 w_hours3 asleep2 real3
def oyezlaw05_Made (metal : List Int) (at_ : Int) (turn : Int) (men : Int) (hours : Int) : Option ((List (List Int)) × (List (List Int)) × (List Int) × Int × Int) :=
    b3 (b3 (oyezkit_Bell_Strike metal at_ turn 1 men) fun n at_2 turn2 =>
    gd (R64 0 ∧ R64 n) <|
    oyezlaw05_Made_l1 metal (Int.toNat (n - 0)) 0 at_2 turn2 []) fun b_at b_turn w_listens =>
    b4 (b3 (oyezkit_Bell_Strike metal b_at b_turn 1 hours) fun n2 at_5 turn5 =>
    gd (R64 0 ∧ R64 n2) <|
    oyezlaw05_Made_l3 metal w_listens (Int.toNat (n2 - 0)) at_5 turn5 [] 0 []) fun w_hours real b_at8 b_turn8 =>
    some (w_listens, w_hours, real, b_at8, b_turn8)
def oyezkit_Hang (metal : List Int) : Option ((List Int) × Int × Int) :=
    some (metal, 0, 0)
def night_desk_sets (listens : List (List Int)) (_hours : List (List Int)) : Option Int :=
    gd ((0 ≤ ((listens.length : Int) : Int) ∧ ((listens.length : Int) : Int) < 64) ∧ R64 (shl 1 (listens.length : Int))) <|
    some (shl 1 (listens.length : Int))
def slices_Index_int_int_j1 : Option Int :=
    some (-1)
def slices_Index_int_int_l2 (v : Int) : List Int → Int → Option Int
  | [], _k =>
    slices_Index_int_int_j1
  | x :: tl2, k =>
    if v = x then
    (some k)
    else
    (slices_Index_int_int_l2 v tl2 (k + 1))
def slices_Index_int_int (s_ : List Int) (v : Int) : Option Int :=
    slices_Index_int_int_l2 v s_ 0
def slices_Contains_int_int (s_ : List Int) (v : Int) : Option Bool :=
    b1 (slices_Index_int_int s_ v) fun n =>
    some (decide (0 ≤ n))
def night_in (n : Int) (lo : Int) (hi : Int) : Option Bool :=
    if lo ≤ n then
    (some (decide (n ≤ hi)))
    else
    (some false)
def slices_IndexFunc_night_Mark_night_Mark_j1 : Option Int :=
    some (-1)
def slices_IndexFunc_night_Mark_night_Mark_l2 (f : (List Int) → Option Bool) : List (List Int) → Int → Option Int
  | [], _k =>
    slices_IndexFunc_night_Mark_night_Mark_j1
  | x :: tl2, k =>
    b1 (f x) fun ok =>
    if ok = true then
    (some k)
    else
    (slices_IndexFunc_night_Mark_night_Mark_l2 f tl2 (k + 1))
def slices_IndexFunc_night_Mark_night_Mark (s_ : List (List Int)) (f : (List Int) → Option Bool) : Option Int :=
    slices_IndexFunc_night_Mark_night_Mark_l2 f s_ 0
def slices_ContainsFunc_night_Mark_night_Mark (s_ : List (List Int)) (f : (List Int) → Option Bool) : Option Bool :=
    b1 (slices_IndexFunc_night_Mark_night_Mark s_ f) fun n =>
    some (decide (0 ≤ n))
def night_every_night_Mark_1 (x : List Int) (so : (List Int) → Option Bool) : Option Bool :=
    b1 (so x) fun ok =>
    some (!ok)
def night_every_night_Mark (l : List (List Int)) (so : (List Int) → Option Bool) : Option Bool :=
    b1 (slices_ContainsFunc_night_Mark_night_Mark l (fun xx_ : (List Int) => night_every_night_Mark_1 xx_ so)) fun ok =>
    some (!ok)
def night_Mark_there (m : Int) : Option Bool :=
    b1 (night_in m 0 2) fun ok =>
    some ok
def slices_IndexFunc_night_Mark_night_Mark__j1 : Option Int :=
    some (-1)
def slices_IndexFunc_night_Mark_night_Mark__l2 (f : Int → Option Bool) : List Int → Int → Option Int
  | [], _k =>
    slices_IndexFunc_night_Mark_night_Mark__j1
  | x :: tl2, k =>
    b1 (f x) fun ok =>
    if ok = true then
    (some k)
    else
    (slices_IndexFunc_night_Mark_night_Mark__l2 f tl2 (k + 1))
def slices_IndexFunc_night_Mark_night_Mark_ (s_ : List Int) (f : Int → Option Bool) : Option Int :=
    slices_IndexFunc_night_Mark_night_Mark__l2 f s_ 0
def slices_ContainsFunc_night_Mark_night_Mark_ (s_ : List Int) (f : Int → Option Bool) : Option Bool :=
    b1 (slices_IndexFunc_night_Mark_night_Mark_ s_ f) fun n =>
    some (decide (0 ≤ n))
def night_every_Mark_1 (x : Int) (so : Int → Option Bool) : Option Bool :=
    b1 (so x) fun ok =>
    some (!ok)
def night_every_Mark (l : List Int) (so : Int → Option Bool) : Option Bool :=
    b1 (slices_ContainsFunc_night_Mark_night_Mark_ l (fun xx_ : Int => night_every_Mark_1 xx_ so)) fun ok =>
    some (!ok)
def night_Check_2 (l : List Int) : Option Bool :=
    b1 (night_every_Mark l (fun xx_ : Int => night_Mark_there xx_)) fun ok =>
    some ok
def night_Check_1 (l : List Int) (men : Int) : Option Bool :=
    some (decide ((l.length : Int) = men))
def night_Check_j3 (k2 : Int) (rec2 : Int → Option Int) : Option Int :=
    rec2 (k2 + 1)
def night_Check_l4 (k2 : Int) (x : List Int) (rec2 : Int → Option Int) : List Int → Int → Option Int
  | [], _k3 =>
    night_Check_j3 k2 rec2
  | x2 :: tl4, k3 =>
    gd (R64 (k2 - 1)) <|
    b1 (night_in x2 0 (k2 - 1)) fun ok4 =>
    if (!ok4) = true then
    (some 1)
    else
    (gd ((0 ≤ (0 : Int) ∧ (0 : Int) ≤ k3) ∧ k3 ≤ x.length) <|
    bv (sl x 0 k3) fun x3 =>
    b1 (slices_Contains_int_int x3 x2) fun ok5 =>
    if ok5 = true then
    (some 5)
    else
    (night_Check_l4 k2 x rec2 tl4 (k3 + 1)))
def night_Check_j1 (hours : List (List Int)) : Option Int :=
    b1 (night_every_night_Mark hours (fun xx_ : (List Int) => night_Check_2 xx_)) fun ok6 =>
    if (!ok6) = true then
    (some 3)
    else
    (some 0)
def night_Check_l2 (hours : List (List Int)) : List (List Int) → Int → Option Int
  | [], _k2 =>
    night_Check_j1 hours
  | x :: tl2, k2 =>
    night_Check_l4 k2 x (night_Check_l2 hours tl2) x 0
def night_Check (listens : List (List Int)) (hours : List (List Int)) : Option Int :=
    b1 (b1 (night_in (listens.length : Int) 1 6) fun ok =>
    if (!ok) = true then
    (some true)
    else
    (b1 (night_in (hours.length : Int) 1 8) fun ok2 =>
    if (!ok2) = true then
    (some true)
    else
    (b1 (night_every_night_Mark hours (fun xx_ : (List Int) => night_Check_1 xx_ (listens.length : Int))) fun ok3 =>
    some (!ok3)))) fun k =>
    if k = true then
    (some 2)
    else
    (night_Check_l2 hours listens 0)
def slices_IndexFunc_int_int_j1 : Option Int :=
    some (-1)
def slices_IndexFunc_int_int_l2 (f : Int → Option Bool) : List Int → Int → Option Int
  | [], _k =>
    slices_IndexFunc_int_int_j1
  | x :: tl2, k =>
    b1 (f x) fun ok =>
    if ok = true then
    (some k)
    else
    (slices_IndexFunc_int_int_l2 f tl2 (k + 1))
def slices_IndexFunc_int_int (s_ : List Int) (f : Int → Option Bool) : Option Int :=
    slices_IndexFunc_int_int_l2 f s_ 0
def slices_ContainsFunc_int_int (s_ : List Int) (f : Int → Option Bool) : Option Bool :=
    b1 (slices_IndexFunc_int_int s_ f) fun n =>
    some (decide (0 ≤ n))
def night_desk_cries_1 (m : Int) (out : Int) : Option Bool :=
    gd (0 ≤ m ∧ m < 64) <|
    some (decide ((band (shr out m) 1) = 1))
def night_desk_cries_l1 (asleep : Int) : List (List Int) → Int → Int → Option Int
  | [], _k, out2 =>
    some out2
  | x :: tl2, k, out2 =>
    b1 (gd (0 ≤ k ∧ k < 64) <|
    if (band (shr asleep k) 1) = 0 then
    (if (x.length : Int) = 0 then
    (some true)
    else
    (b1 (slices_ContainsFunc_int_int x (fun xx_ : Int => night_desk_cries_1 xx_ out2)) fun ok =>
    some ok))
    else
    (some false)) fun k2 =>
    if k2 = true then
    (gd ((0 ≤ (k : Int) ∧ (k : Int) < 64) ∧ R64 (shl 1 k)) <|
    night_desk_cries_l1 asleep tl2 (k + 1) (bor out2 (shl 1 k)))
    else
    (night_desk_cries_l1 asleep tl2 (k + 1) out2)
def night_desk_cries (listens : List (List Int)) (_hours : List (List Int)) (cried : List (Int × Int)) (asleep : Int) : Option (Int × (List (Int × Int))) :=
    if ((mget cried asleep).isSome) = true then
    (some ((mget cried asleep).getD 0, cried))
    else
    (b1 (night_desk_cries_l1 asleep listens 0 0) fun out =>
    bv (mput cried asleep out) fun met =>
    some (out, met))
def night_desk_wrong_l1 (n : Int) : List Int → Int → Int → Option Int
  | [], _k, out2 =>
    some out2
  | x2 :: tl2, k, out2 =>
    b1 (if x2 = 1 then
    (gd (0 ≤ k ∧ k < 64) <|
    if (band (shr n k) 1) = 0 then
    (some true)
    else
    (if x2 = 2 then
    (gd (0 ≤ k ∧ k < 64) <|
    some (decide ((band (shr n k) 1) = 1)))
    else
    (some false)))
    else
    (if x2 = 2 then
    (gd (0 ≤ k ∧ k < 64) <|
    some (decide ((band (shr n k) 1) = 1)))
    else
    (some false))) fun k2 =>
    if k2 = true then
    (gd ((0 ≤ (k : Int) ∧ (k : Int) < 64) ∧ R64 (shl 1 k)) <|
    night_desk_wrong_l1 n tl2 (k + 1) (bor out2 (shl 1 k)))
    else
    (night_desk_wrong_l1 n tl2 (k + 1) out2)
def night_desk_wrong (listens : List (List Int)) (hours : List (List Int)) (cried : List (Int × Int)) (hour : Int) (asleep : Int) : Option (Int × (List (Int × Int))) :=
    b2 (night_desk_cries listens hours cried asleep) fun n cried2 =>
    b1 (ix hours hour fun x =>
    night_desk_wrong_l1 n x 0 0) fun out =>
    some (out, cried2)
def night_opened_l2 (listens : List (List Int)) (hours : List (List Int)) (k : Int) : Nat → Int → (List (Int × Int)) → (List Bool) → Option ((List (Int × Int)) × (List Bool))
  | 0, _k2, d_cried5, r4 =>
    some (d_cried5, r4)
  | fu2 + 1, k2, d_cried5, r4 =>
    b2 (night_desk_wrong listens hours d_cried5 k k2) fun n3 cried =>
    ix r4 k2 fun _x2 =>
    bv (r4.set (k2 : Int).toNat (decide (n3 = 0))) fun r5 =>
    night_opened_l2 listens hours k fu2 (k2 + 1) cried r5
def night_opened_l1 (listens : List (List Int)) (hours : List (List Int)) : List (List Int) → Int → (List (Int × Int)) → (List (List Bool)) → Option ((List (Int × Int)) × (List (List Bool)))
  | [], _k, d_cried2, d_rows2 =>
    some (d_cried2, d_rows2)
  | _x :: tl2, k, d_cried2, d_rows2 =>
    b2 (b2 (b1 (night_desk_sets listens hours) fun n2 =>
    gd (R64 0 ∧ R64 n2) <|
    night_opened_l2 listens hours k (Int.toNat (n2 - 0)) 0 d_cried2 (List.replicate 64 false)) fun d_cried4 r3 =>
    ap d_rows2 [r3] fun l =>
    some (d_cried4, l)) fun d_cried3 d_rows3 =>
    night_opened_l1 listens hours tl2 (k + 1) d_cried3 d_rows3
def night_opened (listens : List (List Int)) (hours : List (List Int)) : Option ((Option ((List (List Int)) × (List (List Int)) × (List (Int × Int)) × (List (List Bool)))) × Int) :=
    b1 (night_Check listens hours) fun n =>
    if n ≠ 0 then
    (some (none, n))
    else
    (b2 (night_opened_l1 listens hours hours 0 [] []) fun d_cried d_rows =>
    some (some (listens, hours, d_cried, d_rows), 0))
def slices_Index_night_row_night_row_j1 : Option Int :=
    some (-1)
def slices_Index_night_row_night_row_l2 (v : List Bool) : List (List Bool) → Int → Option Int
  | [], _k =>
    slices_Index_night_row_night_row_j1
  | x :: tl2, k =>
    if v = x then
    (some k)
    else
    (slices_Index_night_row_night_row_l2 v tl2 (k + 1))
def slices_Index_night_row_night_row (s_ : List (List Bool)) (v : List Bool) : Option Int :=
    slices_Index_night_row_night_row_l2 v s_ 0
def slices_Contains_night_row_night_row (s_ : List (List Bool)) (v : List Bool) : Option Bool :=
    b1 (slices_Index_night_row_night_row s_ v) fun n =>
    some (decide (0 ≤ n))
def night_desk_clash (_listens : List (List Int)) (_hours : List (List Int)) (rows : List (List Bool)) : Option Bool :=
    b1 (slices_Contains_night_row_night_row rows (List.replicate 64 false)) fun ok =>
    some ok
def night_told (listens : List (List Int)) (hours : List (List Int)) : Option ((Option ((List (List Int)) × (List (List Int)) × (List (Int × Int)) × (List (List Bool)))) × Int) :=
    b2 (night_opened listens hours) fun d n =>
    if n ≠ 0 then
    (some (none, n))
    else
    (b4 d fun listens2 hours2 cried rows =>
    b1 (night_desk_clash listens2 hours2 rows) fun ok =>
    if ok = true then
    (some (none, 7))
    else
    (some (some (listens2, hours2, cried, rows), 0)))
def night_desk_fit_1_l1 (rows : List (List Bool)) (hour : Int) : Nat → Int → Option (List Int)
  | 0, _k =>
    some []
  | fu1 + 1, k =>
    ix rows hour fun x =>
    ix x k fun x2 =>
    if x2 = true then
    (yl k <|
    night_desk_fit_1_l1 rows hour fu1 (k + 1))
    else
    (night_desk_fit_1_l1 rows hour fu1 (k + 1))
def night_desk_fit_1 (listens : List (List Int)) (hours : List (List Int)) (rows : List (List Bool)) (hour : Int) : Option (List Int) :=
    b1 (night_desk_sets listens hours) fun n =>
    gd (R64 0 ∧ R64 n) <|
    night_desk_fit_1_l1 rows hour (Int.toNat (n - 0)) 0
def night_desk_fit (listens : List (List Int)) (hours : List (List Int)) (rows : List (List Bool)) (hour : Int) : Option (List Int) :=
    b1 (night_desk_fit_1 listens hours rows hour) fun l =>
    some l
def night_ones_l1 : Nat → Int → Int → Option Int
  | 0, _, _ => none
  | fu1 + 1, set_2, n2 =>
    if 0 < set_2 then
    (gd (R64 (n2 + (band set_2 1))) <|
    night_ones_l1 fu1 (shr set_2 1) (n2 + (band set_2 1)))
    else
    (some n2)
def night_ones (set_ : Int) : Option Int :=
    b1 (night_ones_l1 FU set_ 0) fun n =>
    some n
def night_fallen (before : Int) (set_ : Int) : Option Int :=
    b1 (night_ones (bandn set_ before)) fun n =>
    some n
def night_least_l1 : List Int → Int → Option Int
  | [], n3 =>
    some n3
  | x :: tl2, n3 =>
    night_least_l1 tl2 (if x < n3 then x else n3)
def night_least (n : Int) (more : List Int) : Option Int :=
    b1 (night_least_l1 more n) fun n2 =>
    some n2
def night_desk_rest_l3 (ok : Int → Option Bool) (h : Int) (k : Int) : List Int → (List (List Int)) → Option (List (List Int))
  | [], out6 =>
    some out6
  | x3 :: tl2, out6 =>
    b1 (ok x3) fun ok2 =>
    if ok2 = true then
    (ix out6 h fun x4 =>
    ix x4 k fun x5 =>
    gd (R64 (h + 1)) <|
    ix out6 (h + 1) fun x6 =>
    ix x6 x3 fun x7 =>
    b1 (night_fallen k x3) fun n2 =>
    gd (R64 (x7 + n2)) <|
    b1 (night_least x5 [x7 + n2]) fun n3 =>
    bv (out6.set (h : Int).toNat (x4.set (k : Int).toNat n3)) fun l3 =>
    night_desk_rest_l3 ok h k tl2 l3)
    else
    (night_desk_rest_l3 ok h k tl2 out6)
def night_desk_rest_l2 (listens : List (List Int)) (hours : List (List Int)) (rows : List (List Bool)) (ok : Int → Option Bool) (h : Int) : Nat → Int → (List (List Int)) → Option (List (List Int))
  | 0, _k, out4 =>
    some out4
  | fu2 + 1, k, out4 =>
    b1 (ix out4 h fun x =>
    ix x k fun _x2 =>
    bv (out4.set (h : Int).toNat (x.set (k : Int).toNat 100)) fun l2 =>
    gd (R64 (h + 1)) <|
    b1 (night_desk_fit listens hours rows (h + 1)) fun y =>
    night_desk_rest_l3 ok h k y l2) fun out5 =>
    night_desk_rest_l2 listens hours rows ok h fu2 (k + 1) out5
def night_desk_rest_l1 (listens : List (List Int)) (hours : List (List Int)) (rows : List (List Bool)) (ok : Int → Option Bool) : Nat → (List (List Int)) → Int → Option (List (List Int))
  | 0, _, _ => none
  | fu1 + 1, out2, h =>
    if 0 ≤ h then
    (b1 (b1 (night_desk_sets listens hours) fun n =>
    gd (R64 0 ∧ R64 n) <|
    night_desk_rest_l2 listens hours rows ok h (Int.toNat (n - 0)) 0 out2) fun out3 =>
    gd (R64 (h - 1)) <|
    night_desk_rest_l1 listens hours rows ok fu1 out3 (h - 1))
    else
    (some out2)
def night_desk_rest (listens : List (List Int)) (hours : List (List Int)) (rows : List (List Bool)) (ok : Int → Option Bool) : Option (List (List Int)) :=
    gd (0 ≤ (hours.length : Int) ∧ (hours.length : Int) ≤ 1048576) <|
    bv (List.replicate ((hours.length : Int) : Int).toNat (List.replicate 64 0) : List (List Int)) fun l =>
    b1 (gd (R64 ((hours.length : Int) - 2)) <|
    night_desk_rest_l1 listens hours rows ok FU l ((hours.length : Int) - 2)) fun out =>
    some out
def night_desk_first_l4 (ok : Int → Option Bool) (l : List (List Int)) (before : Int) (k : Int) : List Int → Int → Int → Option (Int × Int)
  | [], best2, n2 =>
    some (best2, n2)
  | x2 :: tl4, best2, n2 =>
    b1 (night_fallen before x2) fun n3 =>
    ix l k fun x3 =>
    ix x3 x2 fun x4 =>
    gd (R64 (n3 + x4)) <|
    b1 (b1 (ok x2) fun ok2 =>
    if ok2 = true then
    (some (decide ((n3 + x4) < n2)))
    else
    (some false)) fun k2 =>
    if k2 = true then
    (night_desk_first_l4 ok l before k tl4 x2 (n3 + x4))
    else
    (night_desk_first_l4 ok l before k tl4 best2 n2)
def night_desk_first_j3 (k : Int) (rec2 : Int → (List Int) → Int → Int → Option ((List Int) × Int)) (out3 : List Int) (sum3 : Int) (before2 : Int) : Option ((List Int) × Int) :=
    rec2 (k + 1) out3 sum3 before2
def night_desk_first_j1 (out : List Int) (sum : Int) : Option ((List Int) × Int) :=
    gd (out ≠ []) <|
    some (out, sum)
def night_desk_first_l2 (listens : List (List Int)) (hours : List (List Int)) (rows : List (List Bool)) (ok : Int → Option Bool) (l : List (List Int)) : List (List Int) → Int → (List Int) → Int → Int → Option ((List Int) × Int)
  | [], _k, out2, sum2, _before =>
    night_desk_first_j1 out2 sum2
  | _x :: tl2, k, out2, sum2, before =>
    b2 (b1 (night_desk_fit listens hours rows k) fun y =>
    night_desk_first_l4 ok l before k y 0 100) fun best n =>
    if n = 100 then
    (some ([], 100))
    else
    (b1 (night_fallen before best) fun n4 =>
    gd (R64 (sum2 + n4)) <|
    ap out2 [best] fun l2 =>
    night_desk_first_j3 k (night_desk_first_l2 listens hours rows ok l tl2) l2 (sum2 + n4) best)
def night_desk_first (listens : List (List Int)) (hours : List (List Int)) (rows : List (List Bool)) (ok : Int → Option Bool) : Option ((List Int) × Int) :=
    b1 (night_desk_rest listens hours rows ok) fun l =>
    night_desk_first_l2 listens hours rows ok l hours 0 [] 0 0
def night_all_1 (_x : Int) : Option Bool :=
    some true
def night_all : Option Bool :=
    some true
def night_Fewest (listens : List (List Int)) (hours : List (List Int)) : Option ((List Int) × Int × Int) :=
    b2 (night_told listens hours) fun d n =>
    if n ≠ 0 then
    (some ([], 0, n))
    else
    (b4 d fun listens2 hours2 _cried rows =>
    b1 (night_all) fun y =>
    gd (y = true) <|
    b2 (night_desk_first listens2 hours2 rows (fun xx_ : Int => night_all_1 xx_)) fun l n2 =>
    some (l, n2, 0))
def night_desk_table_l3 (out2 : List (List Int)) (k : Int) (x2 : Int) (rec2 : (List Int) → Option (List Int)) : List Int → (List Int) → Option (List Int)
  | [], l6 =>
    rec2 l6
  | x5 :: tl6, l6 =>
    ix l6 x2 fun x6 =>
    gd (R64 (k - 1)) <|
    ix out2 (k - 1) fun x7 =>
    ix x7 x5 fun x8 =>
    b1 (night_fallen x5 x2) fun n3 =>
    gd (R64 (x8 + n3)) <|
    b1 (night_least x6 [x8 + n3]) fun n4 =>
    bv (l6.set (x2 : Int).toNat n4) fun l7 =>
    night_desk_table_l3 out2 k x2 rec2 tl6 l7
def night_desk_table_l2 (listens : List (List Int)) (hours : List (List Int)) (rows : List (List Bool)) (out2 : List (List Int)) (k : Int) : List Int → (List Int) → Option (List Int)
  | [], l3 =>
    some l3
  | x2 :: tl4, l3 =>
    if k = 0 then
    (b1 (night_ones x2) fun n2 =>
    ix l3 x2 fun _x3 =>
    bv (l3.set (x2 : Int).toNat n2) fun l4 =>
    night_desk_table_l2 listens hours rows out2 k tl4 l4)
    else
    (ix l3 x2 fun _x4 =>
    bv (l3.set (x2 : Int).toNat 100) fun l5 =>
    gd (R64 (k - 1)) <|
    b1 (night_desk_fit listens hours rows (k - 1)) fun y2 =>
    night_desk_table_l3 out2 k x2 (night_desk_table_l2 listens hours rows out2 k tl4) y2 l5)
def night_desk_table_l1 (listens : List (List Int)) (hours : List (List Int)) (rows : List (List Bool)) : List (List Int) → Int → (List (List Int)) → Option (List (List Int))
  | [], _k, out2 =>
    some out2
  | _x :: tl2, k, out2 =>
    b1 (b1 (night_desk_sets listens hours) fun n =>
    gd (0 ≤ n ∧ n ≤ 1048576) <|
    bv (List.replicate (n : Int).toNat 0 : List Int) fun l =>
    b1 (b1 (night_desk_fit listens hours rows k) fun y =>
    night_desk_table_l2 listens hours rows out2 k y l) fun l2 =>
    ap out2 [l2] fun out4 =>
    some out4) fun out3 =>
    night_desk_table_l1 listens hours rows tl2 (k + 1) out3
def night_desk_table (listens : List (List Int)) (hours : List (List Int)) (rows : List (List Bool)) : Option (List (List Int)) :=
    b1 (night_desk_table_l1 listens hours rows hours 0 []) fun out =>
    some out
def night_Most_l3 (man : Int) (l : List (List Int)) (lo2 : List Int) (hi2 : List Int) (k : Int) (x : Int) (rec2 : (List Int) → (List Int) → Option ((List Int) × (List Int))) : List Int → (List Int) → (List Int) → Option ((List Int) × (List Int))
  | [], low4, high3 =>
    rec2 low4 high3
  | x6 :: tl4, low4, high3 =>
    gd (R64 (k - 1)) <|
    ix l (k - 1) fun x7 =>
    ix x7 x6 fun x8 =>
    b1 (night_fallen x6 x) fun n2 =>
    gd (R64 (x8 + n2)) <|
    ix l k fun x9 =>
    ix x9 x fun x10 =>
    if (x8 + n2) = x10 then
    (gd (0 ≤ man ∧ man < 64) <|
    bv (band (shr (bandn x x6) man) 1) fun n3 =>
    ix low4 x fun x11 =>
    ix lo2 x6 fun x12 =>
    gd (R64 (x12 + n3)) <|
    ix high3 x fun x13 =>
    ix hi2 x6 fun x14 =>
    gd (R64 (x14 + n3)) <|
    b1 (night_least x11 [x12 + n3]) fun n4 =>
    bv (low4.set (x : Int).toNat n4) fun l4 =>
    bv (high3.set (x : Int).toNat (if x14 + n3 > x13 then x14 + n3 else x13)) fun l5 =>
    night_Most_l3 man l lo2 hi2 k x rec2 tl4 l4 l5)
    else
    (night_Most_l3 man l lo2 hi2 k x rec2 tl4 low4 high3)
def night_Most_l2 (man : Int) (listens2 : List (List Int)) (hours2 : List (List Int)) (rows : List (List Bool)) (l : List (List Int)) (lo2 : List Int) (hi2 : List Int) (k : Int) : List Int → (List Int) → (List Int) → Option ((List Int) × (List Int))
  | [], low2, high2 =>
    some (low2, high2)
  | x :: tl2, low2, high2 =>
    if k = 0 then
    (gd (0 ≤ man ∧ man < 64) <|
    ix low2 x fun _x2 =>
    bv (low2.set (x : Int).toNat (band (shr x man) 1)) fun l2 =>
    ix l2 x fun x3 =>
    ix high2 x fun _x4 =>
    bv (high2.set (x : Int).toNat x3) fun l3 =>
    night_Most_l2 man listens2 hours2 rows l lo2 hi2 k tl2 l2 l3)
    else
    (ix low2 x fun _x5 =>
    bv (low2.set (x : Int).toNat 100) fun low3 =>
    gd (R64 (k - 1)) <|
    b1 (night_desk_fit listens2 hours2 rows (k - 1)) fun y2 =>
    night_Most_l3 man l lo2 hi2 k x (night_Most_l2 man listens2 hours2 rows l lo2 hi2 k tl2) y2 low3 high2)
def night_Most_l1 (man : Int) (listens2 : List (List Int)) (hours2 : List (List Int)) (rows : List (List Bool)) (l : List (List Int)) : Nat → Int → (List Int) → (List Int) → Option ((List Int) × (List Int))
  | 0, _k, lo2, hi2 =>
    some (lo2, hi2)
  | fu1 + 1, k, lo2, hi2 =>
    b2 (b2 (b1 (night_desk_fit listens2 hours2 rows k) fun y =>
    night_Most_l2 man listens2 hours2 rows l lo2 hi2 k y (List.replicate 64 0) (List.replicate 64 0)) fun low high =>
    some (low, high)) fun lo3 hi3 =>
    night_Most_l1 man listens2 hours2 rows l fu1 (k + 1) lo3 hi3
def night_Most_l4 (l : List (List Int)) (lo : List Int) (hi : List Int) (n5 : Int) : List Int → Int → Int → Option (Int × Int)
  | [], out_lo2, out_hi2 =>
    some (out_lo2, out_hi2)
  | x15 :: tl6, out_lo2, out_hi2 =>
    gd (R64 ((l.length : Int) - 1)) <|
    ix l ((l.length : Int) - 1) fun x16 =>
    ix x16 x15 fun x17 =>
    if x17 = n5 then
    (ix lo x15 fun x18 =>
    ix hi x15 fun x19 =>
    b1 (night_least out_lo2 [x18]) fun n6 =>
    night_Most_l4 l lo hi n5 tl6 n6 (if x19 > out_hi2 then x19 else out_hi2))
    else
    (night_Most_l4 l lo hi n5 tl6 out_lo2 out_hi2)
def night_Most (listens : List (List Int)) (hours : List (List Int)) (man : Int) : Option (Int × Int × Int) :=
    b2 (night_opened listens hours) fun d n =>
    if n ≠ 0 then
    (some (0, 0, n))
    else
    (gd (R64 ((listens.length : Int) - 1)) <|
    b1 (night_in man 0 ((listens.length : Int) - 1)) fun ok =>
    if (!ok) = true then
    (some (0, 0, 1))
    else
    (b4 d fun listens2 hours2 _cried rows =>
    b1 (night_desk_clash listens2 hours2 rows) fun ok2 =>
    if ok2 = true then
    (some (0, 0, 7))
    else
    (b1 (night_desk_table listens2 hours2 rows) fun l =>
    b2 (gd (R64 0 ∧ R64 (hours.length : Int)) <|
    night_Most_l1 man listens2 hours2 rows l (Int.toNat ((hours.length : Int) - 0)) 0 (List.replicate 64 0) (List.replicate 64 0)) fun lo hi =>
    b1 (night_all) fun y3 =>
    gd (y3 = true) <|
    b2 (night_desk_first listens2 hours2 rows (fun xx_ : Int => night_all_1 xx_)) fun _l6 n5 =>
    b2 (gd (R64 ((l.length : Int) - 1)) <|
    b1 (night_desk_fit listens2 hours2 rows ((l.length : Int) - 1)) fun y4 =>
    night_Most_l4 l lo hi n5 y4 100 0) fun out_lo out_hi =>
    some (out_lo, out_hi, 0))))
def slices_Clone_int_int (s_ : List Int) : Option (List Int) :=
    nilIf (s_ = []) (some []) (ap ([] : List Int) s_ fun l =>
    some l)
def night_Men_1_1 (s_ : Int) (set_ : Int) : Option Bool :=
    some (decide ((bandn s_ set_) = 0))
def night_Men_1B_j1 (out2 : List Int) : Option (Bool × (List Int)) :=
    some (false, out2)
def night_Men_1B_l2 (l : List Int) (set_ : Int) (many : Int) (listens : List (List Int)) (hours : List (List Int)) (rows : List (List Bool)) (listens2 : List (List Int)) (hours2 : List (List Int)) (rec_ : (List Int) → Int → Int → Int → (List (List Int)) → (List (List Int)) → (List (List Bool)) → (List Int) → (List (List Int)) → (List (List Int)) → Option (Bool × (List Int))) : Nat → Int → (List Int) → Option (Bool × (List Int))
  | 0, _i, out3 =>
    night_Men_1B_j1 out3
  | fu2 + 1, i, out3 =>
    gd ((0 ≤ (i : Int) ∧ (i : Int) < 64) ∧ R64 (shl 1 i)) <|
    gd (R64 (many - 1)) <|
    b1 (slices_Clone_int_int l) fun l3 =>
    ap l3 [i] fun l4 =>
    b2 (rec_ l4 (bor set_ (shl 1 i)) (i + 1) (many - 1) listens hours rows out3 listens2 hours2) fun ok out4 =>
    if ok = true then
    (some (true, out4))
    else
    (night_Men_1B_l2 l set_ many listens hours rows listens2 hours2 rec_ fu2 (i + 1) out4)
def night_Men_1B (rec_ : (List Int) → Int → Int → Int → (List (List Int)) → (List (List Int)) → (List (List Bool)) → (List Int) → (List (List Int)) → (List (List Int)) → Option (Bool × (List Int))) (l : List Int) (set_ : Int) (from_ : Int) (many : Int) (listens : List (List Int)) (hours : List (List Int)) (rows : List (List Bool)) (out : List Int) (listens2 : List (List Int)) (hours2 : List (List Int)) : Option (Bool × (List Int)) :=
    if many = 0 then
    (b2 (night_desk_first listens hours rows (fun xx_ : Int => night_Men_1_1 xx_ set_)) fun l2 _n =>
    if l2 = [] then
    (some (false, out))
    else
    (some (true, l)))
    else
    (gd (R64 from_ ∧ R64 (listens2.length : Int)) <|
    night_Men_1B_l2 l set_ many listens hours rows listens2 hours2 rec_ (Int.toNat ((listens2.length : Int) - from_)) from_ out)
def night_Men_1 : Nat → (List Int) → Int → Int → Int → (List (List Int)) → (List (List Int)) → (List (List Bool)) → (List Int) → (List (List Int)) → (List (List Int)) → Option (Bool × (List Int))
  | 0, _, _, _, _, _, _, _, _, _, _ => none
  | fu + 1, l, set_, from_, many, listens, hours, rows, out, listens2, hours2 =>
    night_Men_1B (night_Men_1 fu) l set_ from_ many listens hours rows out listens2 hours2
def night_Men_l1 (listens : List (List Int)) (hours : List (List Int)) (listens2 : List (List Int)) (hours2 : List (List Int)) (rows : List (List Bool)) : Nat → Int → (List Int) → Option (List Int)
  | 0, _k, out2 =>
    some out2
  | fu1 + 1, k, out2 =>
    b2 (night_Men_1 FU [] 0 0 k listens2 hours2 rows out2 listens hours) fun ok out3 =>
    if ok = true then
    (some out3)
    else
    (night_Men_l1 listens hours listens2 hours2 rows fu1 (k + 1) out3)
def night_Men (listens : List (List Int)) (hours : List (List Int)) : Option ((List Int) × Int) :=
    b2 (night_told listens hours) fun d n =>
    if n ≠ 0 then
    (some ([], n))
    else
    (b1 (gd (R64 ((listens.length : Int) + 1)) <|
    b4 d fun listens2 hours2 _cried rows =>
    gd (R64 0 ∧ R64 ((listens.length : Int) + 1)) <|
    night_Men_l1 listens hours listens2 hours2 rows (Int.toNat (((listens.length : Int) + 1) - 0)) 0 []) fun out =>
    some (out, 0))
def night_Cries (listens : List (List Int)) (hours : List (List Int)) (asleep : Int) : Option (Int × Int) :=
    b2 (night_opened listens hours) fun d n =>
    if n ≠ 0 then
    (some (0, n))
    else
    (b4 d fun listens2 hours2 cried _rows =>
    b1 (night_desk_sets listens2 hours2) fun n2 =>
    gd (R64 (n2 - 1)) <|
    b1 (night_in asleep 0 (n2 - 1)) fun ok =>
    if (!ok) = true then
    (some (0, 3))
    else
    (b2 (night_desk_cries listens2 hours2 cried asleep) fun n3 _cried2 =>
    some (n3, 0)))
def night_desk_count_l2 : List Int → Int → Option Int
  | [], k3 =>
    some k3
  | _x2 :: tl4, k3 =>
    gd (R64 (k3 + 1)) <|
    night_desk_count_l2 tl4 (k3 + 1)
def night_desk_count_l1 (listens : List (List Int)) (hours : List (List Int)) (rows : List (List Bool)) : List (List Int) → Int → Int → Option Int
  | [], _k, n2 =>
    some n2
  | _x :: tl2, k, n2 =>
    b1 (b1 (b1 (night_desk_fit listens hours rows k) fun y =>
    night_desk_count_l2 y 0) fun k2 =>
    gd (R64 (n2 * k2)) <|
    some (n2 * k2)) fun n3 =>
    night_desk_count_l1 listens hours rows tl2 (k + 1) n3
def night_desk_count (listens : List (List Int)) (hours : List (List Int)) (rows : List (List Bool)) : Option Int :=
    b1 (night_desk_count_l1 listens hours rows hours 0 1) fun n =>
    some n
def night_Count (listens : List (List Int)) (hours : List (List Int)) : Option (Int × Int) :=
    b2 (night_opened listens hours) fun d n =>
    if n ≠ 0 then
    (some (0, n))
    else
    (b4 d fun listens2 hours2 _cried rows =>
    b1 (night_desk_count listens2 hours2 rows) fun n2 =>
    some (n2, 0))
def night_Ways_l3 (l : List (List Int)) (ways2 : List Int) (k : Int) (x : Int) (rec2 : (List Int) → Option (List Int)) : List Int → (List Int) → Option (List Int)
  | [], next_4 =>
    rec2 next_4
  | x3 :: tl4, next_4 =>
    gd (R64 (k - 1)) <|
    ix l (k - 1) fun x4 =>
    ix x4 x3 fun x5 =>
    b1 (night_fallen x3 x) fun n2 =>
    gd (R64 (x5 + n2)) <|
    ix l k fun x6 =>
    ix x6 x fun x7 =>
    if (x5 + n2) = x7 then
    (ix next_4 x fun x8 =>
    ix ways2 x3 fun x9 =>
    gd (R64 (x8 + x9)) <|
    bv (next_4.set (x : Int).toNat (x8 + x9)) fun l2 =>
    night_Ways_l3 l ways2 k x rec2 tl4 l2)
    else
    (night_Ways_l3 l ways2 k x rec2 tl4 next_4)
def night_Ways_l2 (listens2 : List (List Int)) (hours2 : List (List Int)) (rows : List (List Bool)) (l : List (List Int)) (ways2 : List Int) (k : Int) : List Int → (List Int) → Option (List Int)
  | [], next_2 =>
    some next_2
  | x :: tl2, next_2 =>
    if k = 0 then
    (ix next_2 x fun _x2 =>
    bv (next_2.set (x : Int).toNat 1) fun next_3 =>
    night_Ways_l2 listens2 hours2 rows l ways2 k tl2 next_3)
    else
    (gd (R64 (k - 1)) <|
    b1 (night_desk_fit listens2 hours2 rows (k - 1)) fun y2 =>
    night_Ways_l3 l ways2 k x (night_Ways_l2 listens2 hours2 rows l ways2 k tl2) y2 next_2)
def night_Ways_l1 (listens2 : List (List Int)) (hours2 : List (List Int)) (rows : List (List Bool)) (l : List (List Int)) : Nat → Int → (List Int) → Option (List Int)
  | 0, _k, ways2 =>
    some ways2
  | fu1 + 1, k, ways2 =>
    b1 (b1 (b1 (night_desk_fit listens2 hours2 rows k) fun y =>
    night_Ways_l2 listens2 hours2 rows l ways2 k y (List.replicate 64 0)) fun next_ =>
    some next_) fun ways3 =>
    night_Ways_l1 listens2 hours2 rows l fu1 (k + 1) ways3
def night_Ways_l4 (x10 : List Int) : List Int → Int → Option Int
  | [], fewest2 =>
    some fewest2
  | x11 :: tl6, fewest2 =>
    ix x10 x11 fun x12 =>
    b1 (night_least fewest2 [x12]) fun n3 =>
    night_Ways_l4 x10 tl6 n3
def night_Ways_l5 (ways : List Int) (x10 : List Int) (fewest : Int) : List Int → Int → Option Int
  | [], out2 =>
    some out2
  | x13 :: tl8, out2 =>
    ix x10 x13 fun x14 =>
    if x14 = fewest then
    (ix ways x13 fun x15 =>
    gd (R64 (out2 + x15)) <|
    night_Ways_l5 ways x10 fewest tl8 (out2 + x15))
    else
    (night_Ways_l5 ways x10 fewest tl8 out2)
def night_Ways (listens : List (List Int)) (hours : List (List Int)) : Option (Int × Int) :=
    b2 (night_opened listens hours) fun d n =>
    if n ≠ 0 then
    (some (0, n))
    else
    (b4 d fun listens2 hours2 _cried rows =>
    b1 (night_desk_clash listens2 hours2 rows) fun ok =>
    if ok = true then
    (some (0, 0))
    else
    (b1 (night_desk_table listens2 hours2 rows) fun l =>
    b1 (gd (R64 0 ∧ R64 (hours.length : Int)) <|
    night_Ways_l1 listens2 hours2 rows l (Int.toNat ((hours.length : Int) - 0)) 0 (List.replicate 64 0)) fun ways =>
    gd (R64 ((l.length : Int) - 1)) <|
    ix l ((l.length : Int) - 1) fun x10 =>
    b1 (gd (R64 ((l.length : Int) - 1)) <|
    b1 (night_desk_fit listens2 hours2 rows ((l.length : Int) - 1)) fun y3 =>
    night_Ways_l4 x10 y3 100) fun fewest =>
    b1 (gd (R64 ((l.length : Int) - 1)) <|
    b1 (night_desk_fit listens2 hours2 rows ((l.length : Int) - 1)) fun y4 =>
    night_Ways_l5 ways x10 fewest y4 0) fun out =>
    some (out, 0)))
def slices_Equal_int_int_j1 : Option Bool :=
    some true
def slices_Equal_int_int_l2 (s2 : List Int) : List Int → Int → Option Bool
  | [], _k =>
    slices_Equal_int_int_j1
  | x :: tl2, k =>
    ix s2 k fun x2 =>
    if x ≠ x2 then
    (some false)
    else
    (slices_Equal_int_int_l2 s2 tl2 (k + 1))
def slices_Equal_int_int (s1 : List Int) (s2 : List Int) : Option Bool :=
    if (s1.length : Int) ≠ (s2.length : Int) then
    (some false)
    else
    (slices_Equal_int_int_l2 s2 s1 0)
def oyezkit_Like_int (a : List Int) (b : List Int) : Option Bool :=
    b1 (slices_Equal_int_int a b) fun ok =>
    some ok
def night_Watch_with_l1 : List (List Int) → Int → (List (List Int)) → Option (List (List Int))
  | [], _k, out_listens2 =>
    some out_listens2
  | x :: tl2, k, out_listens2 =>
    b1 (slices_Clone_int_int x) fun l3 =>
    ix out_listens2 k fun _x2 =>
    bv (out_listens2.set (k : Int).toNat l3) fun l4 =>
    night_Watch_with_l1 tl2 (k + 1) l4
def night_Watch_with_l2 : List (List Int) → Int → (List (List Int)) → Option (List (List Int))
  | [], _k2, out_hours2 =>
    some out_hours2
  | x3 :: tl4, k2, out_hours2 =>
    ix out_hours2 k2 fun _x4 =>
    gd (0 ≤ (x3.length : Int) ∧ (x3.length : Int) ≤ 1048576) <|
    bv (List.replicate ((x3.length : Int) : Int).toNat 0 : List Int) fun l5 =>
    bv (out_hours2.set (k2 : Int).toNat l5) fun l6 =>
    ix l6 k2 fun x5 =>
    bv (cpy x5 x3) fun l7 =>
    bv (l6.set (k2 : Int).toNat l7) fun out =>
    night_Watch_with_l2 tl4 (k2 + 1) out
def night_Watch_with (listens : List (List Int)) (hours : List (List Int)) (hour : Int) (man : Int) (m : Int) : Option ((List (List Int)) × (List (List Int))) :=
    gd (0 ≤ (listens.length : Int) ∧ (listens.length : Int) ≤ 1048576) <|
    gd (0 ≤ (hours.length : Int) ∧ (hours.length : Int) ≤ 1048576) <|
    bv (List.replicate ((hours.length : Int) : Int).toNat [] : List (List Int)) fun l =>
    bv (List.replicate (Int.toNat (listens.length : Int)) [] : List (List Int)) fun l2 =>
    b1 (night_Watch_with_l1 listens 0 l2) fun out_listens =>
    b1 (night_Watch_with_l2 hours 0 l) fun out_hours =>
    ix out_hours hour fun x6 =>
    ix x6 man fun _x7 =>
    bv (x6.set (man : Int).toNat m) fun l8 =>
    bv (out_hours.set (hour : Int).toNat l8) fun out2 =>
    some (out_listens, out2)
def night_desk_split (listens : List (List Int)) (hours : List (List Int)) (_rows : List (List Bool)) (hour : Int) (man : Int) : Option (Int × Int) :=
    b2 (night_Watch_with listens hours hour man 1) fun l l2 =>
    b2 (night_opened l l2) fun d _n =>
    b2 (night_Watch_with listens hours hour man 2) fun l3 l4 =>
    b2 (night_opened l3 l4) fun d2 _n2 =>
    b4 d fun listens2 hours2 _cried rows2 =>
    b4 d2 fun listens3 hours3 _cried2 rows3 =>
    b1 (night_desk_count listens2 hours2 rows2) fun n3 =>
    b1 (night_desk_count listens3 hours3 rows3) fun n4 =>
    some (n3, n4)
def night_Watch_place (listens : List (List Int)) (hours : List (List Int)) (hour : Int) (man : Int) : Option Bool :=
    gd (R64 ((hours.length : Int) - 1)) <|
    b1 (night_in hour 0 ((hours.length : Int) - 1)) fun ok =>
    if ok = true then
    (gd (R64 ((listens.length : Int) - 1)) <|
    b1 (night_in man 0 ((listens.length : Int) - 1)) fun ok2 =>
    some ok2)
    else
    (some false)
def night_Split (listens : List (List Int)) (hours : List (List Int)) (hour : Int) (man : Int) : Option (Int × Int × Int) :=
    b2 (night_opened listens hours) fun d n =>
    if n ≠ 0 then
    (some (0, 0, n))
    else
    (b1 (night_Watch_place listens hours hour man) fun ok =>
    if (!ok) = true then
    (some (0, 0, 1))
    else
    (ix hours hour fun x =>
    ix x man fun x2 =>
    if x2 ≠ 0 then
    (some (0, 0, 5))
    else
    (b4 d fun listens2 hours2 _cried rows =>
    b2 (night_desk_split listens2 hours2 rows hour man) fun n2 n3 =>
    some (n2, n3, 0))))
def slices_Clone_night_Verdict_night_Verdict (s_ : List Int) : Option (List Int) :=
    nilIf (s_ = []) (some []) (ap ([] : List Int) s_ fun l =>
    some l)
def night_Verdicts_l2 : List Int → Int → Int → Option (Int × Int)
  | [], some_2, all_2 =>
    some (some_2, all_2)
  | x5 :: tl4, some_2, all_2 =>
    night_Verdicts_l2 tl4 (bor some_2 x5) (band all_2 x5)
def night_Verdicts_l3 (some_ : Int) (all_ : Int) : List (List Int) → Int → (List Int) → Option (List Int)
  | [], _k3, l3 =>
    some l3
  | _x6 :: tl6, k3, l3 =>
    b1 (gd (0 ≤ k3 ∧ k3 < 64) <|
    if (band (shr all_ k3) 1) = 1 then
    (some 1)
    else
    (some 0)) fun v =>
    b1 (gd (0 ≤ k3 ∧ k3 < 64) <|
    if (band (shr some_ k3) 1) = 0 then
    (some 2)
    else
    (some v)) fun v2 =>
    ap l3 [v2] fun l4 =>
    night_Verdicts_l3 some_ all_ tl6 (k3 + 1) l4
def night_Verdicts_l1 (listens : List (List Int)) (listens2 : List (List Int)) (hours2 : List (List Int)) (rows : List (List Bool)) : List (List Int) → Int → (List (List Int)) → Option (List (List Int))
  | [], _k, out2 =>
    some out2
  | _x :: tl2, k, out2 =>
    b1 (b1 (if 0 < k then
    (ix rows k fun x2 =>
    gd (R64 (k - 1)) <|
    ix rows (k - 1) fun x3 =>
    some (decide (x2 = x3)))
    else
    (some false)) fun k2 =>
    if k2 = true then
    (gd (R64 (k - 1)) <|
    ix out2 (k - 1) fun x4 =>
    b1 (slices_Clone_night_Verdict_night_Verdict x4) fun l =>
    ap out2 [l] fun out4 =>
    some out4)
    else
    (b1 (night_desk_sets listens2 hours2) fun n2 =>
    gd (R64 (n2 - 1)) <|
    b2 (b1 (night_desk_fit listens2 hours2 rows k) fun y =>
    night_Verdicts_l2 y 0 (n2 - 1)) fun some_ all_ =>
    b1 (night_Verdicts_l3 some_ all_ listens 0 []) fun l2 =>
    ap out2 [l2] fun out5 =>
    some out5)) fun out3 =>
    night_Verdicts_l1 listens listens2 hours2 rows tl2 (k + 1) out3
def night_Verdicts (listens : List (List Int)) (hours : List (List Int)) : Option ((List (List Int)) × Int) :=
    b2 (night_told listens hours) fun d n =>
    if n ≠ 0 then
    (some ([], n))
    else
    (b1 (b4 d fun listens2 hours2 _cried rows =>
    night_Verdicts_l1 listens listens2 hours2 rows hours 0 []) fun out =>
    some (out, 0))
def oyezlaw05_Four : Option ((List (List Int)) × (List (List Int))) :=
    some ([[], [0], [1], [0, 2]], [[0, 0, 2, 1], [0, 0, 2, 0]])
def slices_Equal_night_Verdict_night_Verdict_j1 : Option Bool :=
    some true
def slices_Equal_night_Verdict_night_Verdict_l2 (s2 : List Int) : List Int → Int → Option Bool
  | [], _k =>
    slices_Equal_night_Verdict_night_Verdict_j1
  | x :: tl2, k =>
    ix s2 k fun x2 =>
    if x ≠ x2 then
    (some false)
    else
    (slices_Equal_night_Verdict_night_Verdict_l2 s2 tl2 (k + 1))
def slices_Equal_night_Verdict_night_Verdict (s1 : List Int) (s2 : List Int) : Option Bool :=
    if (s1.length : Int) ≠ (s2.length : Int) then
    (some false)
    else
    (slices_Equal_night_Verdict_night_Verdict_l2 s2 s1 0)
def oyezkit_Like_Verdict (a : List Int) (b : List Int) : Option Bool :=
    b1 (slices_Equal_night_Verdict_night_Verdict a b) fun ok =>
    some ok
def oyezlaw05_awake : Option Bool :=
    b2 (oyezlaw05_Four) fun l l2 =>
    b2 (night_Cries l l2 2) fun n n2 =>
    b2 (oyezlaw05_Four) fun l3 l4 =>
    b3 (night_Fewest l3 l4) fun l5 n3 n4 =>
    b2 (oyezlaw05_Four) fun l6 l7 =>
    b2 (night_Count l6 l7) fun n5 n6 =>
    b2 (oyezlaw05_Four) fun l8 l9 =>
    b2 (night_Ways l8 l9) fun n7 n8 =>
    b1 (if n2 ≠ 0 then
    (some true)
    else
    (if n4 ≠ 0 then
    (some true)
    else
    (if n6 ≠ 0 then
    (some true)
    else
    (if n8 ≠ 0 then
    (some true)
    else
    (if n ≠ 9 then
    (some true)
    else
    (if n3 ≠ 1 then
    (some true)
    else
    (b1 (oyezkit_Like_int l5 [2, 2]) fun ok =>
    if (!ok) = true then
    (some true)
    else
    (if n5 ≠ 42 then
    (some true)
    else
    (some (decide (n7 ≠ 2))))))))))) fun k =>
    if k = true then
    (some false)
    else
    (b2 (oyezlaw05_Four) fun l10 l11 =>
    b2 (night_Verdicts l10 l11) fun l12 n9 =>
    b2 (oyezlaw05_Four) fun l13 l14 =>
    b2 (night_Men l13 l14) fun l15 n10 =>
    b2 (oyezlaw05_Four) fun l16 l17 =>
    b3 (night_Split l16 l17 0 1) fun n11 n12 n13 =>
    b2 (oyezlaw05_Four) fun l18 l19 =>
    b3 (night_Most l18 l19 1) fun n14 n15 n16 =>
    if n9 = 0 then
    (if n10 = 0 then
    (if n13 = 0 then
    (if n16 = 0 then
    (if (l12.length : Int) = 2 then
    (ix l12 0 fun x =>
    b1 (oyezkit_Like_Verdict x [2, 0, 0, 2]) fun ok2 =>
    if ok2 = true then
    (b1 (oyezkit_Like_int l15 [1]) fun ok3 =>
    if ok3 = true then
    (if n11 = 14 then
    (if n12 = 28 then
    (some (decide (n14 = 0 ∧ n15 = 1)))
    else
    (some false))
    else
    (some false))
    else
    (some false))
    else
    (some false))
    else
    (some false))
    else
    (some false))
    else
    (some false))
    else
    (some false))
    else
    (some false))
def oyezlaw01_Made_l1 (metal : List Int) : Nat → Int → Int → (List Int) → Int → Option (Int × Int × (List Int))
  | 0, b_at2, b_turn2, t_plots2, _left_ =>
    some (b_at2, b_turn2, t_plots2)
  | fu1 + 1, b_at2, b_turn2, t_plots2, left_ =>
    b3 (oyezkit_Bell_Stroke metal b_at2 b_turn2 5) fun n3 at_4 turn4 =>
    ix [0, 0, 0, 1, 1, 2] n3 fun x =>
    b2 (if x = 1 then
    (gd (R64 (left_ - 1)) <|
    if (left_ - 1) < 0 then
    (some (left_ - 1, 0))
    else
    (some (left_ - 1, x)))
    else
    (some (left_, x))) fun left_2 p =>
    ap t_plots2 [p] fun t =>
    oyezlaw01_Made_l1 metal fu1 at_4 turn4 t left_2
def oyezlaw01_Made (metal : List Int) (at_ : Int) (turn : Int) (plots : Int) : Option (Int × (List Int) × Int × Int) :=
    b3 (oyezkit_Bell_Strike metal at_ turn 1 6) fun n at_2 turn2 =>
    gd ((n : Int) ≠ 0 ∧ R64 (Int.tdiv plots n)) <|
    b3 (oyezkit_Bell_Strike metal at_2 turn2 1 (if Int.tdiv plots n > 1 then Int.tdiv plots n else 1)) fun n2 at_3 turn3 =>
    b3 (gd (R64 (n2 * n)) <|
    gd (R64 0 ∧ R64 (n2 * n)) <|
    oyezlaw01_Made_l1 metal (Int.toNat ((n2 * n) - 0)) at_3 turn3 [] 10) fun b_at b_turn t_plots =>
    gd (R64 ((t_plots.length : Int) - 1)) <|
    b3 (oyezkit_Bell_Stroke metal b_at b_turn ((t_plots.length : Int) - 1)) fun n4 at_5 turn5 =>
    ix t_plots n4 fun _x2 =>
    bv (t_plots.set (n4 : Int).toNat 0) fun l =>
    some (n, l, at_5, turn5)
def oyezlaw01_Aired (metal : List Int) (at_ : Int) (turn : Int) : Option (Int × Int × Int × Int) :=
    b3 (oyezkit_Bell_Stroke metal at_ turn 4) fun n at_2 turn2 =>
    b3 (oyezkit_Bell_Strike metal at_2 turn2 1 16) fun n2 at_3 turn3 =>
    some (n, n2, at_3, turn3)
def hear_in (n : Int) (lo : Int) (hi : Int) : Option Bool :=
    if lo ≤ n then
    (some (decide (n ≤ hi)))
    else
    (some false)
def slices_IndexFunc_hear_Plot_hear_Plot_j1 : Option Int :=
    some (-1)
def slices_IndexFunc_hear_Plot_hear_Plot_l2 (f : Int → Option Bool) : List Int → Int → Option Int
  | [], _k =>
    slices_IndexFunc_hear_Plot_hear_Plot_j1
  | x :: tl2, k =>
    b1 (f x) fun ok =>
    if ok = true then
    (some k)
    else
    (slices_IndexFunc_hear_Plot_hear_Plot_l2 f tl2 (k + 1))
def slices_IndexFunc_hear_Plot_hear_Plot (s_ : List Int) (f : Int → Option Bool) : Option Int :=
    slices_IndexFunc_hear_Plot_hear_Plot_l2 f s_ 0
def slices_ContainsFunc_hear_Plot_hear_Plot (s_ : List Int) (f : Int → Option Bool) : Option Bool :=
    b1 (slices_IndexFunc_hear_Plot_hear_Plot s_ f) fun n =>
    some (decide (0 ≤ n))
def hear_every_Plot_1 (x : Int) (so : Int → Option Bool) : Option Bool :=
    b1 (so x) fun ok =>
    some (!ok)
def hear_every_Plot (l : List Int) (so : Int → Option Bool) : Option Bool :=
    b1 (slices_ContainsFunc_hear_Plot_hear_Plot l (fun xx_ : Int => hear_every_Plot_1 xx_ so)) fun ok =>
    some (!ok)
def hear_Check_1 (p : Int) : Option Bool :=
    b1 (hear_in p 0 2) fun ok =>
    some ok
def hear_Town_houses_l1 : List Int → Int → Option Int
  | [], n2 =>
    some n2
  | x :: tl2, n2 =>
    if x = 1 then
    (gd (R64 (n2 + 1)) <|
    hear_Town_houses_l1 tl2 (n2 + 1))
    else
    (hear_Town_houses_l1 tl2 n2)
def hear_Town_houses (_wide : Int) (plots : List Int) : Option Int :=
    b1 (hear_Town_houses_l1 plots 0) fun n =>
    some n
def hear_Check (wide : Int) (plots : List Int) : Option Int :=
    b1 (b1 (hear_in wide 1 6) fun ok =>
    if (!ok) = true then
    (some true)
    else
    (b1 (hear_in (plots.length : Int) 1 30) fun ok2 =>
    if (!ok2) = true then
    (some true)
    else
    (gd (wide ≠ 0) <|
    some (decide ((Int.tmod (plots.length : Int) wide) ≠ 0))))) fun k =>
    if k = true then
    (some 2)
    else
    (b1 (hear_every_Plot plots (fun xx_ : Int => hear_Check_1 xx_)) fun ok3 =>
    if (!ok3) = true then
    (some 3)
    else
    (b1 (hear_Town_houses wide plots) fun n =>
    if 10 < n then
    (some 2)
    else
    (some 0)))
def hear_Dir_there (w : Int) : Option Bool :=
    b1 (hear_in w 0 4) fun ok =>
    some ok
def hear_steps : Option (List (Int × (Int × Int))) :=
    bv (mput [] 1 (-1, 0)) fun met =>
    bv (mput met 2 (0, 1)) fun met2 =>
    bv (mput met2 3 (1, 0)) fun met3 =>
    bv (mput met3 4 (0, -1)) fun met4 =>
    some met4
def hear_opened (wide : Int) (plots : List Int) (wind : Int) : Option ((Option (Int × (List Int) × Int × Int × Bool)) × Int) :=
    b1 (hear_Check wide plots) fun n =>
    if n ≠ 0 then
    (some (none, n))
    else
    (b1 (hear_Dir_there wind) fun ok =>
    if (!ok) = true then
    (some (none, 3))
    else
    (b1 (hear_steps) fun m =>
    some (some (wide, plots, ((mget m wind).getD (0, 0)).1, ((mget m wind).getD (0, 0)).2, (mget m wind).isSome), 0)))
def hear_Town_plot (_wide : Int) (plots : List Int) (p : Int) : Option Bool :=
    gd (R64 ((plots.length : Int) - 1)) <|
    b1 (hear_in p 0 ((plots.length : Int) - 1)) fun ok =>
    some ok
def hear_Town_is (wide : Int) (plots : List Int) (p : Int) (kind : Int) : Option Int :=
    b1 (hear_Town_plot wide plots p) fun ok =>
    if (!ok) = true then
    (some 1)
    else
    (ix plots p fun x =>
    if x ≠ kind then
    (some 8)
    else
    (some 0))
def hear_standing (wide : Int) (plots : List Int) (wind : Int) (stand : Int) : Option ((Option (Int × (List Int) × Int × Int × Bool)) × Int) :=
    b2 (hear_opened wide plots wind) fun d n =>
    if n ≠ 0 then
    (some (none, n))
    else
    (b1 (hear_Town_is wide plots stand 0) fun n2 =>
    if n2 ≠ 0 then
    (some (none, n2))
    else
    (some (d, 0)))
def hear_Town_wall (_wide : Int) (plots : List Int) (p : Int) : Option Bool :=
    ix plots p fun x =>
    some (decide (x = 2))
def hear_step_back (down : Int) (right_ : Int) : Option (Int × Int) :=
    gd (R64 (-down)) <|
    gd (R64 (-right_)) <|
    some (-down, -right_)
def hear_desk_needs (_wide : Int) (plots : List Int) (down : Int) (right_ : Int) (blows : Bool) (down2 : Int) (right_2 : Int) (to : Int) : Option Int :=
    b1 (if (!blows) = true then
    (some 2)
    else
    (if down2 = down ∧ right_2 = right_ then
    (some 1)
    else
    (b2 (hear_step_back down right_) fun n2 n3 =>
    if down2 = n2 ∧ right_2 = n3 then
    (some 4)
    else
    (some 2)))) fun n =>
    ix plots to fun x =>
    if x = 1 then
    (gd (R64 (n + 1)) <|
    some (n + 1))
    else
    (some n)
def hear_desk_next_1_l1 (p : Int) (wide : Int) (plots : List Int) (down : Int) (right_ : Int) (blows : Bool) (closed : Int → Option Bool) : Nat → Int → Option (List (Int × Int))
  | 0, _k =>
    some []
  | fu1 + 1, k =>
    ix [(-1, 0), (0, -1), (0, 1), (1, 0)] k fun x =>
    gd (R64 (x.1 * wide)) <|
    gd (R64 (p + (x.1 * wide))) <|
    gd (R64 ((p + (x.1 * wide)) + x.2)) <|
    b1 (hear_Town_plot wide plots ((p + (x.1 * wide)) + x.2)) fun ok =>
    if (!ok) = true then
    (hear_desk_next_1_l1 p wide plots down right_ blows closed fu1 (k + 1))
    else
    (if x.1 = 0 then
    (gd ((wide : Int) ≠ 0 ∧ R64 (Int.tdiv ((p + (x.1 * wide)) + x.2) wide)) <|
    gd ((wide : Int) ≠ 0 ∧ R64 (Int.tdiv p wide)) <|
    if (Int.tdiv ((p + (x.1 * wide)) + x.2) wide) ≠ (Int.tdiv p wide) then
    (hear_desk_next_1_l1 p wide plots down right_ blows closed fu1 (k + 1))
    else
    (b1 (closed ((p + (x.1 * wide)) + x.2)) fun ok2 =>
    if ok2 = true then
    (hear_desk_next_1_l1 p wide plots down right_ blows closed fu1 (k + 1))
    else
    (b1 (hear_desk_needs wide plots down right_ blows x.1 x.2 ((p + (x.1 * wide)) + x.2)) fun n =>
    yl ((p + (x.1 * wide)) + x.2, n) <|
    hear_desk_next_1_l1 p wide plots down right_ blows closed fu1 (k + 1))))
    else
    (b1 (closed ((p + (x.1 * wide)) + x.2)) fun ok3 =>
    if ok3 = true then
    (hear_desk_next_1_l1 p wide plots down right_ blows closed fu1 (k + 1))
    else
    (b1 (hear_desk_needs wide plots down right_ blows x.1 x.2 ((p + (x.1 * wide)) + x.2)) fun n2 =>
    yl ((p + (x.1 * wide)) + x.2, n2) <|
    hear_desk_next_1_l1 p wide plots down right_ blows closed fu1 (k + 1))))
def hear_desk_next_1 (p : Int) (wide : Int) (plots : List Int) (down : Int) (right_ : Int) (blows : Bool) (closed : Int → Option Bool) : Option (List (Int × Int)) :=
    gd (R64 0 ∧ R64 4) <|
    hear_desk_next_1_l1 p wide plots down right_ blows closed (Int.toNat (4 - 0)) 0
def hear_desk_next (wide : Int) (plots : List Int) (down : Int) (right_ : Int) (blows : Bool) (p : Int) : Option (List (Int × Int)) :=
    b1 (hear_desk_next_1 p wide plots down right_ blows (fun xx_ : Int => hear_Town_wall wide plots xx_)) fun l =>
    some l
def hear_desk_from_l1 : Nat → Int → (List Int) → Option (List Int)
  | 0, _k, out2 =>
    some out2
  | fu1 + 1, k, out2 =>
    ix out2 k fun _x =>
    bv (out2.set (k : Int).toNat (-1)) fun out3 =>
    hear_desk_from_l1 fu1 (k + 1) out3
def hear_desk_from_l3 (x3 : Int) (rec2 : (List Int) → (List Int) → Option (List Int)) : List (Int × Int) → (List Int) → (List Int) → Option (List Int)
  | [], out7, line3 =>
    rec2 out7 line3
  | x4 :: tl2, out7, line3 =>
    b1 (ix out7 x4.1 fun x5 =>
    if x5 = (-1) then
    (some true)
    else
    (ix out7 x3 fun x6 =>
    gd (R64 (x6 + x4.2)) <|
    some (decide ((x6 + x4.2) < x5)))) fun k2 =>
    if k2 = true then
    (ix out7 x3 fun x7 =>
    gd (R64 (x7 + x4.2)) <|
    ix out7 x4.1 fun _x8 =>
    bv (out7.set (x4.1 : Int).toNat (x7 + x4.2)) fun l2 =>
    ap line3 [x4.1] fun line4 =>
    hear_desk_from_l3 x3 rec2 tl2 l2 line4)
    else
    (hear_desk_from_l3 x3 rec2 tl2 out7 line3)
def hear_desk_from_l2 (wide : Int) (plots : List Int) (down : Int) (right_ : Int) (blows : Bool) : Nat → (List Int) → (List Int) → Option (List Int)
  | 0, _, _ => none
  | fu2 + 1, out6, line =>
    if 0 < (line.length : Int) then
    (ix line 0 fun x3 =>
    gd ((0 ≤ (1 : Int) ∧ (1 : Int) ≤ (line.length : Int)) ∧ (line.length : Int) ≤ line.length) <|
    bv (sl line 1 (line.length : Int)) fun line2 =>
    b1 (hear_desk_next wide plots down right_ blows x3) fun y =>
    hear_desk_from_l3 x3 (hear_desk_from_l2 wide plots down right_ blows fu2) y out6 line2)
    else
    (some out6)
def hear_desk_from (wide : Int) (plots : List Int) (down : Int) (right_ : Int) (blows : Bool) (stand : Int) : Option (List Int) :=
    gd (0 ≤ (plots.length : Int) ∧ (plots.length : Int) ≤ 1048576) <|
    bv (List.replicate ((plots.length : Int) : Int).toNat 0 : List Int) fun l =>
    b1 (gd (R64 0 ∧ R64 (l.length : Int)) <|
    hear_desk_from_l1 (Int.toNat ((l.length : Int) - 0)) 0 l) fun out =>
    ix out stand fun _x2 =>
    bv (out.set (stand : Int).toNat 0) fun out4 =>
    b1 (hear_desk_from_l2 wide plots down right_ blows FU out4 [stand]) fun out5 =>
    some out5
def hear_Needs (wide : Int) (plots : List Int) (wind : Int) (stand : Int) : Option ((List Int) × Int) :=
    b2 (hear_standing wide plots wind stand) fun d n =>
    if n ≠ 0 then
    (some ([], n))
    else
    (b5 d fun wide2 plots2 down right_ blows =>
    b1 (hear_desk_from wide2 plots2 down right_ blows stand) fun l =>
    some (l, 0))
def hear_Need (wide : Int) (plots : List Int) (wind : Int) (stand : Int) (plot : Int) : Option (Int × Int) :=
    b2 (hear_Needs wide plots wind stand) fun l n =>
    if n ≠ 0 then
    (some (0, n))
    else
    (b1 (hear_Town_plot wide plots plot) fun ok =>
    if (!ok) = true then
    (some (0, 1))
    else
    (ix l plot fun x =>
    if x = (-1) then
    (some (0, 6))
    else
    (some (x, 0))))
def oyezlaw05_NightChained_1 (k : Int) (met : Int) : Option Bool :=
    gd (0 ≤ k ∧ k < 64) <|
    some (decide ((band (shr met k) 1) = 1))
def oyezlaw05_NightChained_l1 : List Int → Int → (List Int) → Option (List Int)
  | [], _k, at_5 =>
    some at_5
  | x :: tl2, k, at_5 =>
    b1 (if x = 0 then
    (some (decide ((at_5.length : Int) < 6)))
    else
    (some false)) fun k2 =>
    if k2 = true then
    (ap at_5 [k] fun at_6 =>
    oyezlaw05_NightChained_l1 tl2 (k + 1) at_6)
    else
    (oyezlaw05_NightChained_l1 tl2 (k + 1) at_5)
def oyezlaw05_NightChained_j4 (k3 : Int) (rec3 : Int → (List (List Int)) → Option Bool) (w_listens3 : List (List Int)) : Option Bool :=
    rec3 (k3 + 1) w_listens3
def oyezlaw05_NightChained_j5 (w_listens2 : List (List Int)) (k3 : Int) (rec3 : Int → (List (List Int)) → Option Bool) (l3 : List Int) : Option Bool :=
    ap w_listens2 [l3] fun w =>
    oyezlaw05_NightChained_j4 k3 rec3 w
def oyezlaw05_NightChained_l6 (n : Int) (l : List Int) (n2 : Int) (n3 : Int) (w_listens2 : List (List Int)) (k3 : Int) (x2 : Int) (rec3 : Int → (List (List Int)) → Option Bool) : List Int → Int → (List Int) → Option Bool
  | [], _k4, l4 =>
    oyezlaw05_NightChained_j5 w_listens2 k3 rec3 l4
  | x3 :: tl6, k4, l4 =>
    b2 (hear_Need n l n2 x3 x2) fun n4 n5 =>
    b1 (if n5 ≠ 0 then
    (some (decide (n5 ≠ 6)))
    else
    (some false)) fun k5 =>
    if k5 = true then
    (some false)
    else
    (b1 (if n5 = 0 then
    (some (decide (n4 ≤ n3)))
    else
    (some false)) fun k6 =>
    if k6 = true then
    (ap l4 [k4] fun l5 =>
    oyezlaw05_NightChained_l6 n l n2 n3 w_listens2 k3 x2 rec3 tl6 (k4 + 1) l5)
    else
    (oyezlaw05_NightChained_l6 n l n2 n3 w_listens2 k3 x2 rec3 tl6 (k4 + 1) l4))
def oyezlaw05_NightChained_l8 (asleep : Int) : List (List Int) → Int → Int → Option Int
  | [], _k9, met4 =>
    some met4
  | x4 :: tl8, k9, met4 =>
    b1 (gd (0 ≤ k9 ∧ k9 < 64) <|
    if (band (shr asleep k9) 1) = 0 then
    (if (x4.length : Int) = 0 then
    (some true)
    else
    (b1 (slices_ContainsFunc_int_int x4 (fun xx_ : Int => oyezlaw05_NightChained_1 xx_ met4)) fun ok =>
    some ok))
    else
    (some false)) fun k10 =>
    if k10 = true then
    (gd ((0 ≤ (k9 : Int) ∧ (k9 : Int) < 64) ∧ R64 (shl 1 k9)) <|
    oyezlaw05_NightChained_l8 asleep tl8 (k9 + 1) (bor met4 (shl 1 k9)))
    else
    (oyezlaw05_NightChained_l8 asleep tl8 (k9 + 1) met4)
def oyezlaw05_NightChained_l7 (w_listens : List (List Int)) (asleep : Int) : Nat → Int → Option Int
  | 0, met2 =>
    some met2
  | fu7 + 1, met2 =>
    b1 (oyezlaw05_NightChained_l8 asleep w_listens 0 met2) fun met3 =>
    oyezlaw05_NightChained_l7 w_listens asleep fu7 met3
def oyezlaw05_NightChained_j2 (set_ : Int) (l2 : List Int) (at_7 : List Int) (w_listens : List (List Int)) : Option Bool :=
    gd (R64 set_) <|
    gd ((0 ≤ ((at_7.length : Int) : Int) ∧ ((at_7.length : Int) : Int) < 64) ∧ R64 (shl 1 (at_7.length : Int))) <|
    gd ((shl 1 (at_7.length : Int)) ≠ 0) <|
    bv (Int.tmod set_ (shl 1 (at_7.length : Int))) fun asleep =>
    b2 (night_Cries w_listens [l2] asleep) fun n6 n7 =>
    b1 (if n7 ≠ 0 then
    (some true)
    else
    (if n6 < 0 then
    (some true)
    else
    (gd ((0 ≤ ((at_7.length : Int) : Int) ∧ ((at_7.length : Int) : Int) < 64) ∧ R64 (shl 1 (at_7.length : Int))) <|
    some (decide ((shl 1 (at_7.length : Int)) ≤ n6))))) fun k7 =>
    if k7 = true then
    (some false)
    else
    (b1 (gd (R64 0 ∧ R64 (at_7.length : Int)) <|
    oyezlaw05_NightChained_l7 w_listens asleep (Int.toNat ((at_7.length : Int) - 0)) 0) fun met =>
    if n6 = met then
    (b1 (oyezlaw05_awake) fun ok2 =>
    some ok2)
    else
    (some false))
def oyezlaw05_NightChained_l3 (set_ : Int) (n : Int) (l : List Int) (n2 : Int) (n3 : Int) (at_4 : List Int) (l2 : List Int) : List Int → Int → (List (List Int)) → Option Bool
  | [], _k3, w_listens2 =>
    oyezlaw05_NightChained_j2 set_ l2 at_4 w_listens2
  | x2 :: tl4, k3, w_listens2 =>
    gd ((0 ≤ (0 : Int) ∧ (0 : Int) ≤ k3) ∧ k3 ≤ at_4.length) <|
    bv (sl at_4 0 k3) fun at_4_2 =>
    oyezlaw05_NightChained_l6 n l n2 n3 w_listens2 k3 x2 (oyezlaw05_NightChained_l3 set_ n l n2 n3 at_4 l2 tl4) at_4_2 0 []
def oyezlaw05_NightChained (numbers : List Int) (set_ : Int) : Option Bool :=
    b3 (oyezkit_Hang numbers) fun metal at_ turn =>
    b4 (oyezlaw01_Made metal at_ turn 16) fun n l at_2 turn2 =>
    b4 (oyezlaw01_Aired metal at_2 turn2) fun n2 n3 _at_3 _turn3 =>
    b1 (oyezlaw05_NightChained_l1 l 0 []) fun at_4 =>
    gd (0 ≤ (at_4.length : Int) ∧ (at_4.length : Int) ≤ 1048576) <|
    bv (List.replicate ((at_4.length : Int) : Int).toNat 0 : List Int) fun l2 =>
    oyezlaw05_NightChained_l3 set_ n l n2 n3 at_4 l2 at_4 0 []
end Go.Proofs.Ytjgeaaganpkceaa
