/- Plain functions that mirror the code, printed by a program of mine. -/
import Derived.Test.YtodhcoakjlmcdaaGreatZBPl
namespace Go.Proofs.YtodhcoakjlmcdaaGreat
open Go.PL
def oyezkit_Bell_ring (metal : List Int) (at_ : Int) (turn : Int) : Option (Int × Int × Int) :=
    b2 (if at_ = (metal.length : Int) then
    (some (0, (turn + 1) % 4294967296))
    else
    (some (at_, turn))) fun b_at b_turn =>
    bv ((30011 * b_turn) % 4294967296) fun n =>
    b2 (if 0 < (metal.length : Int) then
    (ix metal b_at fun x =>
    bv ((n + ((263 * (x % 4294967296)) % 4294967296)) % 4294967296) fun n3 =>
    gd (R64 (b_at + 1)) <|
    some (n3, b_at + 1))
    else
    (some (n, b_at))) fun n2 b_at2 =>
    gd (R64 (bandK 32 (bxorK 32 n2 (shr n2 7)) 65535)) <|
    some (bandK 32 (bxorK 32 n2 (shr n2 7)) 65535, b_at2, b_turn)
def oyezkit_Bell_Stroke (metal : List Int) (at_ : Int) (turn : Int) (n : Int) : Option (Int × Int × Int) :=
    b3 (oyezkit_Bell_ring metal at_ turn) fun n2 at_2 turn2 =>
    gd (R64 (n + 1)) <|
    gd ((if n + 1 > 1 then n + 1 else 1) ≠ 0) <|
    some (Int.tmod n2 (if n + 1 > 1 then n + 1 else 1), at_2, turn2)
def oyezkit_Bell_Seldom (metal : List Int) (at_ : Int) (turn : Int) (n : Int) : Option (Bool × Int × Int) :=
    gd (R64 (n - 1)) <|
    b3 (oyezkit_Bell_Stroke metal at_ turn (n - 1)) fun n2 at_2 turn2 =>
    some (decide (n2 = 0), at_2, turn2)
def oyezkit_Bell_Strike (metal : List Int) (at_ : Int) (turn : Int) (lo : Int) (hi : Int) : Option (Int × Int × Int) :=
    gd (R64 (hi - lo)) <|
    b3 (oyezkit_Bell_Stroke metal at_ turn (hi - lo)) fun n at_2 turn2 =>
    gd (R64 (lo + n)) <|
    some (lo + n, at_2, turn2)
def oyezkit_Bell_Rung_l1 (metal : List Int) : Nat → Int → Int → Int → (List Int) → Option ((List Int) × Int × Int)
  | 0, _k, b_at2, b_turn2, out2 =>
    some (out2, b_at2, b_turn2)
  | fu1 + 1, k, b_at2, b_turn2, out2 =>
    b3 (oyezkit_Bell_Stroke metal b_at2 b_turn2 k) fun n2 at_2 turn2 =>
    ap out2 [k] fun out3 =>
    ix out3 k fun x =>
    ix out3 n2 fun x2 =>
    bv (out3.set (n2 : Int).toNat x) fun l =>
    ix l k fun _x3 =>
    bv (l.set (k : Int).toNat x2) fun l2 =>
    oyezkit_Bell_Rung_l1 metal fu1 (k + 1) at_2 turn2 l2
def oyezkit_Bell_Rung (metal : List Int) (at_ : Int) (turn : Int) (n : Int) : Option ((List Int) × Int × Int) :=
    b3 (gd (R64 0 ∧ R64 (if n > 0 then n else 0)) <|
    oyezkit_Bell_Rung_l1 metal (Int.toNat ((if n > 0 then n else 0) - 0)) 0 at_ turn []) fun out b_at b_turn =>
    some (out, b_at, b_turn)
def oyezkit_Wind (v : Int) (n : Int) : Option Int :=
    if n < 1 then
    (some 0)
    else
    (gd (n ≠ 0) <|
    if (Int.tmod v n) < 0 then
    (gd (R64 ((Int.tmod v n) + n)) <|
    some ((Int.tmod v n) + n))
    else
    (some (Int.tmod v n)))
def oyezlaw07_Made_l2 (metal : List Int) (n : Int) : Nat → Int → Int → (List (List Int)) → Option (Int × Int × (List (List Int)))
  | 0, b_at5, b_turn5, winds2 =>
    some (b_at5, b_turn5, winds2)
  | fu2 + 1, b_at5, b_turn5, winds2 =>
    b3 (oyezkit_Bell_Rung metal b_at5 b_turn5 n) fun l at_5 turn5 =>
    b3 (oyezkit_Bell_Stroke metal at_5 turn5 (l.length : Int)) fun n4 at_6 turn6 =>
    gd ((0 ≤ (0 : Int) ∧ (0 : Int) ≤ n4) ∧ n4 ≤ l.length) <|
    bv (sl l 0 n4) fun l2 =>
    ap winds2 [l2] fun winds3 =>
    oyezlaw07_Made_l2 metal n fu2 at_6 turn6 winds3
def oyezlaw07_Made_l1 (metal : List Int) (n : Int) : Nat → Int → Int → (List (List (List Int))) → Option (Int × Int × (List (List (List Int))))
  | 0, b_at2, b_turn2, t_hears2 =>
    some (b_at2, b_turn2, t_hears2)
  | fu1 + 1, b_at2, b_turn2, t_hears2 =>
    b3 (b3 (gd (R64 0 ∧ R64 8) <|
    oyezlaw07_Made_l2 metal n (Int.toNat (8 - 0)) b_at2 b_turn2 []) fun b_at4 b_turn4 winds =>
    ap t_hears2 [winds] fun t =>
    some (b_at4, b_turn4, t)) fun b_at3 b_turn3 t_hears3 =>
    oyezlaw07_Made_l1 metal n fu1 b_at3 b_turn3 t_hears3
def oyezlaw07_Made_l3 (metal : List Int) : Nat → Int → Int → (List Int) → Int → (List Int) → Option (Int × Int × (List Int) × (List Int))
  | 0, b_at7, b_turn7, t_readings2, _wind, real2 =>
    some (b_at7, b_turn7, t_readings2, real2)
  | fu3 + 1, b_at7, b_turn7, t_readings2, wind, real2 =>
    b3 (oyezkit_Bell_Strike metal b_at7 b_turn7 (-1) 1) fun n7 at_9 turn9 =>
    gd (R64 (wind + n7)) <|
    b1 (oyezkit_Wind (wind + n7) 8) fun n8 =>
    b3 (oyezkit_Bell_Strike metal at_9 turn9 (-1) 1) fun n9 at_10 turn10 =>
    gd (R64 (n8 + n9)) <|
    b1 (oyezkit_Wind (n8 + n9) 8) fun n10 =>
    b3 (b3 (oyezkit_Bell_Seldom metal at_10 turn10 3) fun ok at_11 turn11 =>
    if ok = true then
    (some (at_11, turn11, -1))
    else
    (some (at_11, turn11, n10))) fun b_at8 b_turn8 point =>
    ap real2 [n8] fun l3 =>
    ap t_readings2 [point] fun l4 =>
    oyezlaw07_Made_l3 metal fu3 b_at8 b_turn8 l4 n8 l3
def oyezlaw07_Made_l4 (metal : List Int) (n2 : Int) (t_hears : List (List (List Int))) (real : List Int) : Nat → Int → Int → (List (Int × Int × Int)) → Option ((List (Int × Int × Int)) × Int × Int)
  | 0, b_at10, b_turn10, t_cries2 =>
    some (t_cries2, b_at10, b_turn10)
  | fu4 + 1, b_at10, b_turn10, t_cries2 =>
    gd (R64 ((real.length : Int) - 1)) <|
    gd (R64 ((t_hears.length : Int) - 1)) <|
    gd (R64 (n2 - 1)) <|
    b3 (oyezkit_Bell_Stroke metal b_at10 b_turn10 ((real.length : Int) - 1)) fun n12 at_13 turn13 =>
    b3 (oyezkit_Bell_Stroke metal at_13 turn13 ((t_hears.length : Int) - 1)) fun n13 at_14 turn14 =>
    b3 (oyezkit_Bell_Stroke metal at_14 turn14 (n2 - 1)) fun n14 at_15 turn15 =>
    ap t_cries2 [(n12, n13, n14)] fun l5 =>
    oyezlaw07_Made_l4 metal n2 t_hears real fu4 at_15 turn15 l5
def oyezlaw07_Made (metal : List Int) (at_ : Int) (turn : Int) (houses : Int) (notices : Int) (stands : Int) (hours : Int) : Option (Int × Int × (List (List (List Int))) × (List Int) × (List (Int × Int × Int)) × (List Int) × Int × Int) :=
    b3 (oyezkit_Bell_Strike metal at_ turn 1 houses) fun n at_2 turn2 =>
    b3 (oyezkit_Bell_Strike metal at_2 turn2 1 notices) fun n2 at_3 turn3 =>
    b3 (b3 (oyezkit_Bell_Strike metal at_3 turn3 1 stands) fun n3 at_4 turn4 =>
    gd (R64 0 ∧ R64 n3) <|
    oyezlaw07_Made_l1 metal n (Int.toNat (n3 - 0)) at_4 turn4 []) fun b_at b_turn t_hears =>
    b3 (oyezkit_Bell_Stroke metal b_at b_turn 7) fun n5 at_7 turn7 =>
    b4 (b3 (oyezkit_Bell_Strike metal at_7 turn7 1 hours) fun n6 at_8 turn8 =>
    gd (R64 0 ∧ R64 n6) <|
    oyezlaw07_Made_l3 metal (Int.toNat (n6 - 0)) at_8 turn8 [] n5 []) fun b_at6 b_turn6 t_readings real =>
    b3 (b3 (oyezkit_Bell_Stroke metal b_at6 b_turn6 6) fun n11 at_12 turn12 =>
    gd (R64 0 ∧ R64 n11) <|
    oyezlaw07_Made_l4 metal n2 t_hears real (Int.toNat (n11 - 0)) at_12 turn12 []) fun t_cries b_at9 b_turn9 =>
    some (n, n2, t_hears, t_readings, t_cries, real, b_at9, b_turn9)
def oyezkit_Hang (metal : List Int) : Option ((List Int) × Int × Int) :=
    some (metal, 0, 0)
def cmp_isNaN_int (x : Int) : Option Bool :=
    some (decide (x ≠ x))
def cmp_Compare_int (x : Int) (y : Int) : Option Int :=
    b1 (cmp_isNaN_int x) fun ok =>
    b1 (cmp_isNaN_int y) fun ok2 =>
    if ok = true then
    (if ok2 = true then
    (some 0)
    else
    (some (-1)))
    else
    (if ok2 = true then
    (some 1)
    else
    (if x < y then
    (some (-1))
    else
    (if y < x then
    (some 1)
    else
    (some 0))))
def slices_Compare_int_int_j1 (s1 : List Int) (s2 : List Int) : Option Int :=
    if (s1.length : Int) < (s2.length : Int) then
    (some (-1))
    else
    (some 0)
def slices_Compare_int_int_l2 (s1 : List Int) (s2 : List Int) : List Int → Int → Option Int
  | [], _k =>
    slices_Compare_int_int_j1 s1 s2
  | x :: tl2, k =>
    if (s2.length : Int) ≤ k then
    (some 1)
    else
    (ix s2 k fun x2 =>
    b1 (cmp_Compare_int x x2) fun n =>
    if n ≠ 0 then
    (some n)
    else
    (slices_Compare_int_int_l2 s1 s2 tl2 (k + 1)))
def slices_Compare_int_int (s1 : List Int) (s2 : List Int) : Option Int :=
    slices_Compare_int_int_l2 s1 s2 s1 0
def slices_IndexFunc_int_int_j1 : Option Int :=
    some (-1)
def slices_IndexFunc_int_int_l2 (f : Int → Option Bool) : List Int → Int → Option Int
  | [], _k =>
    slices_IndexFunc_int_int_j1
  | x :: tl2, k =>
    b1 (f x) fun ok =>
    if ok = true then
    (some k)
    else
    (slices_IndexFunc_int_int_l2 f tl2 (k + 1))
def slices_IndexFunc_int_int (s_ : List Int) (f : Int → Option Bool) : Option Int :=
    slices_IndexFunc_int_int_l2 f s_ 0
def slices_ContainsFunc_int_int (s_ : List Int) (f : Int → Option Bool) : Option Bool :=
    b1 (slices_IndexFunc_int_int s_ f) fun n =>
    some (decide (0 ≤ n))
def book_every_int_1 (x : Int) (so : Int → Option Bool) : Option Bool :=
    b1 (so x) fun ok =>
    some (!ok)
def book_every_int (l : List Int) (so : Int → Option Bool) : Option Bool :=
    b1 (slices_ContainsFunc_int_int l (fun xx_ : Int => book_every_int_1 xx_ so)) fun ok =>
    some (!ok)
def slices_Index_int_int_j1 : Option Int :=
    some (-1)
def slices_Index_int_int_l2 (v : Int) : List Int → Int → Option Int
  | [], _k =>
    slices_Index_int_int_j1
  | x :: tl2, k =>
    if v = x then
    (some k)
    else
    (slices_Index_int_int_l2 v tl2 (k + 1))
def slices_Index_int_int (s_ : List Int) (v : Int) : Option Int :=
    slices_Index_int_int_l2 v s_ 0
def slices_Contains_int_int (s_ : List Int) (v : Int) : Option Bool :=
    b1 (slices_Index_int_int s_ v) fun n =>
    some (decide (0 ≤ n))
def book_in (n : Int) (lo : Int) (hi : Int) : Option Bool :=
    if lo ≤ n then
    (some (decide (n ≤ hi)))
    else
    (some false)
def book_Book_house (houses : Int) (_notices : Int) (_hears : List (List (List Int))) (_readings : List Int) (_cries : List (Int × Int × Int)) (h : Int) : Option Bool :=
    gd (R64 (houses - 1)) <|
    b1 (book_in h 0 (houses - 1)) fun ok =>
    some ok
def book_Book_listed_j1 : Option Int :=
    some 0
def book_Book_listed_l2 (houses : Int) (notices : Int) (hears : List (List (List Int))) (readings : List Int) (cries : List (Int × Int × Int)) (l : List Int) : List Int → Int → Option Int
  | [], _k =>
    book_Book_listed_j1
  | x :: tl2, k =>
    b1 (book_Book_house houses notices hears readings cries x) fun ok =>
    if (!ok) = true then
    (some 1)
    else
    (gd ((0 ≤ (0 : Int) ∧ (0 : Int) ≤ k) ∧ k ≤ l.length) <|
    bv (sl l 0 k) fun l2 =>
    b1 (slices_Contains_int_int l2 x) fun ok2 =>
    if ok2 = true then
    (some 5)
    else
    (book_Book_listed_l2 houses notices hears readings cries l tl2 (k + 1)))
def book_Book_listed (houses : Int) (notices : Int) (hears : List (List (List Int))) (readings : List Int) (cries : List (Int × Int × Int)) (l : List Int) : Option Int :=
    book_Book_listed_l2 houses notices hears readings cries l l 0
def slices_IndexFunc_int_int__j1 : Option Int :=
    some (-1)
def slices_IndexFunc_int_int__l2 (f : (List (List Int)) → Option Bool) : List (List (List Int)) → Int → Option Int
  | [], _k =>
    slices_IndexFunc_int_int__j1
  | x :: tl2, k =>
    b1 (f x) fun ok =>
    if ok = true then
    (some k)
    else
    (slices_IndexFunc_int_int__l2 f tl2 (k + 1))
def slices_IndexFunc_int_int_ (s_ : List (List (List Int))) (f : (List (List Int)) → Option Bool) : Option Int :=
    slices_IndexFunc_int_int__l2 f s_ 0
def slices_ContainsFunc_int_int_ (s_ : List (List (List Int))) (f : (List (List Int)) → Option Bool) : Option Bool :=
    b1 (slices_IndexFunc_int_int_ s_ f) fun n =>
    some (decide (0 ≤ n))
def book_every_int_1_ (x : List (List Int)) (so : (List (List Int)) → Option Bool) : Option Bool :=
    b1 (so x) fun ok =>
    some (!ok)
def book_every_int_ (l : List (List (List Int))) (so : (List (List Int)) → Option Bool) : Option Bool :=
    b1 (slices_ContainsFunc_int_int_ l (fun xx_ : (List (List Int)) => book_every_int_1_ xx_ so)) fun ok =>
    some (!ok)
def book_Book_counted_1 (l : List (List Int)) : Option Bool :=
    some (decide ((l.length : Int) = 8))
def book_Book_counted (houses : Int) (notices : Int) (hears : List (List (List Int))) (readings : List Int) (cries : List (Int × Int × Int)) : Option Bool :=
    b1 (book_in houses 1 6) fun ok =>
    if ok = true then
    (b1 (book_in notices 1 4) fun ok2 =>
    if ok2 = true then
    (b1 (book_in (hears.length : Int) 1 4) fun ok3 =>
    if ok3 = true then
    (b1 (book_in (readings.length : Int) 1 8) fun ok4 =>
    if ok4 = true then
    (if (cries.length : Int) ≤ 12 then
    (b1 (book_every_int_ hears (fun xx_ : (List (List Int)) => book_Book_counted_1 xx_)) fun ok5 =>
    some ok5)
    else
    (some false))
    else
    (some false))
    else
    (some false))
    else
    (some false))
    else
    (some false)
def book_read (n : Int) : Option Bool :=
    if n = (-1) then
    (some true)
    else
    (b1 (book_in n 0 7) fun ok =>
    some ok)
def slices_IndexFunc_book_Cry_book_Cry_j1 : Option Int :=
    some (-1)
def slices_IndexFunc_book_Cry_book_Cry_l2 (f : (Int × Int × Int) → Option Bool) : List (Int × Int × Int) → Int → Option Int
  | [], _k =>
    slices_IndexFunc_book_Cry_book_Cry_j1
  | x :: tl2, k =>
    b1 (f (x.1, x.2.1, x.2.2)) fun ok =>
    if ok = true then
    (some k)
    else
    (slices_IndexFunc_book_Cry_book_Cry_l2 f tl2 (k + 1))
def slices_IndexFunc_book_Cry_book_Cry (s_ : List (Int × Int × Int)) (f : (Int × Int × Int) → Option Bool) : Option Int :=
    slices_IndexFunc_book_Cry_book_Cry_l2 f s_ 0
def slices_ContainsFunc_book_Cry_book_Cry (s_ : List (Int × Int × Int)) (f : (Int × Int × Int) → Option Bool) : Option Bool :=
    b1 (slices_IndexFunc_book_Cry_book_Cry s_ f) fun n =>
    some (decide (0 ≤ n))
def book_every_Cry_1 (hour : Int) (stand : Int) (notice : Int) (so : (Int × Int × Int) → Option Bool) : Option Bool :=
    b1 (so (hour, stand, notice)) fun ok =>
    some (!ok)
def book_every_Cry (l : List (Int × Int × Int)) (so : (Int × Int × Int) → Option Bool) : Option Bool :=
    b1 (slices_ContainsFunc_book_Cry_book_Cry l (fun xx_ : (Int × Int × Int) => book_every_Cry_1 xx_.1 xx_.2.1 xx_.2.2 so)) fun ok =>
    some (!ok)
def book_Book_notice (_houses : Int) (notices : Int) (_hears : List (List (List Int))) (_readings : List Int) (_cries : List (Int × Int × Int)) (n : Int) : Option Bool :=
    gd (R64 (notices - 1)) <|
    b1 (book_in n 0 (notices - 1)) fun ok =>
    some ok
def book_Book_hour (_houses : Int) (_notices : Int) (_hears : List (List (List Int))) (readings : List Int) (_cries : List (Int × Int × Int)) (h : Int) : Option Bool :=
    gd (R64 ((readings.length : Int) - 1)) <|
    b1 (book_in h 0 ((readings.length : Int) - 1)) fun ok =>
    some ok
def book_Check_1 (hour : Int) (stand : Int) (notice : Int) (houses : Int) (notices : Int) (hears : List (List (List Int))) (readings : List Int) (cries : List (Int × Int × Int)) : Option Bool :=
    b1 (book_Book_hour houses notices hears readings cries hour) fun ok =>
    if ok = true then
    (gd (R64 ((hears.length : Int) - 1)) <|
    b1 (book_in stand 0 ((hears.length : Int) - 1)) fun ok2 =>
    if ok2 = true then
    (b1 (book_Book_notice houses notices hears readings cries notice) fun ok3 =>
    some ok3)
    else
    (some false))
    else
    (some false)
def book_Check_j3 (rec2 : Option Int) : Option Int :=
    rec2
def book_Check_l4 (houses : Int) (notices : Int) (hears : List (List (List Int))) (readings : List Int) (cries : List (Int × Int × Int)) (rec2 : Option Int) : List (List Int) → Option Int
  | [] =>
    book_Check_j3 rec2
  | x2 :: tl4 =>
    b1 (book_Book_listed houses notices hears readings cries x2) fun n =>
    if n ≠ 0 then
    (some n)
    else
    (book_Check_l4 houses notices hears readings cries rec2 tl4)
def book_Check_j1 (houses : Int) (notices : Int) (hears : List (List (List Int))) (readings : List Int) (cries : List (Int × Int × Int)) : Option Int :=
    b1 (book_every_int readings (fun xx_ : Int => book_read xx_)) fun ok2 =>
    if (!ok2) = true then
    (some 3)
    else
    (b1 (book_every_Cry cries (fun xx_ : (Int × Int × Int) => book_Check_1 xx_.1 xx_.2.1 xx_.2.2 houses notices hears readings cries)) fun ok3 =>
    if (!ok3) = true then
    (some 1)
    else
    (some 0))
def book_Check_l2 (houses : Int) (notices : Int) (hears : List (List (List Int))) (readings : List Int) (cries : List (Int × Int × Int)) : List (List (List Int)) → Option Int
  | [] =>
    book_Check_j1 houses notices hears readings cries
  | x :: tl2 =>
    book_Check_l4 houses notices hears readings cries (book_Check_l2 houses notices hears readings cries tl2) x
def book_Check (houses : Int) (notices : Int) (hears : List (List (List Int))) (readings : List Int) (cries : List (Int × Int × Int)) : Option Int :=
    b1 (book_Book_counted houses notices hears readings cries) fun ok =>
    if (!ok) = true then
    (some 2)
    else
    (book_Check_l2 houses notices hears readings cries hears)
def book_Complaint_error (house : Int) (notice : Int) (_heard : Bool) (houses : Int) (notices : Int) (hears : List (List (List Int))) (readings : List Int) (cries : List (Int × Int × Int)) : Option Int :=
    b1 (b1 (book_Book_house houses notices hears readings cries house) fun ok =>
    if (!ok) = true then
    (some true)
    else
    (b1 (book_Book_notice houses notices hears readings cries notice) fun ok2 =>
    some (!ok2))) fun k =>
    if k = true then
    (some 1)
    else
    (some 0)
def book_complained_j1 : Option Int :=
    some 0
def book_complained_l2 (houses : Int) (notices : Int) (hears : List (List (List Int))) (readings : List Int) (cries : List (Int × Int × Int)) : List (Int × Int × Bool) → Option Int
  | [] =>
    book_complained_j1
  | x :: tl2 =>
    b1 (book_Complaint_error x.1 x.2.1 x.2.2 houses notices hears readings cries) fun n2 =>
    if n2 ≠ 0 then
    (some n2)
    else
    (book_complained_l2 houses notices hears readings cries tl2)
def book_complained (houses : Int) (notices : Int) (hears : List (List (List Int))) (readings : List Int) (cries : List (Int × Int × Int)) (l : List (Int × Int × Bool)) : Option Int :=
    b1 (book_Check houses notices hears readings cries) fun n =>
    if n ≠ 0 then
    (some n)
    else
    (if 8 < (l.length : Int) then
    (some 2)
    else
    (book_complained_l2 houses notices hears readings cries l))
def book_opened (houses : Int) (notices : Int) (hears : List (List (List Int))) (readings : List Int) (cries : List (Int × Int × Int)) : Option ((Option (Int × Int × (List (List (List Int))) × (List Int) × (List (Int × Int × Int)))) × Int) :=
    b1 (book_Check houses notices hears readings cries) fun n =>
    if n ≠ 0 then
    (some (none, n))
    else
    (some (some (houses, notices, hears, readings, cries), 0))
def book_least_l1 : List Int → Int → Option Int
  | [], n3 =>
    some n3
  | x :: tl2, n3 =>
    book_least_l1 tl2 (if x < n3 then x else n3)
def book_least (n : Int) (more : List Int) : Option Int :=
    b1 (book_least_l1 more n) fun n2 =>
    some n2
def book_near (a : Int) (b : Int) : Option Bool :=
    gd (R64 (a - b)) <|
    gd (R64 ((a - b) + 8)) <|
    gd (R64 (8 - (Int.tmod ((a - b) + 8) 8))) <|
    b1 (book_least (Int.tmod ((a - b) + 8) 8) [8 - (Int.tmod ((a - b) + 8) 8)]) fun n =>
    some (decide (n ≤ 1))
def book_Book_can (_houses : Int) (_notices : Int) (_hears : List (List (List Int))) (readings : List Int) (_cries : List (Int × Int × Int)) (hour : Int) (wind : Int) : Option Bool :=
    ix readings hour fun x =>
    if x = (-1) then
    (some true)
    else
    (b1 (book_near wind x) fun ok =>
    some ok)
def slices_Clone_int_int (s_ : List Int) : Option (List Int) :=
    nilIf (s_ = []) (some []) (ap ([] : List Int) s_ fun l =>
    some l)
def book_desk_hear_l2 (x : Int × Int × Int) : List Int → (List Bool) → Option (List Bool)
  | [], g5 =>
    some g5
  | x4 :: tl4, g5 =>
    gd (0 ≤ x4 ∧ x4 < 6) <|
    gd (0 ≤ x.2.2 ∧ x.2.2 < 4) <|
    ix g5 (x4 * 4 + x.2.2) fun _x5 =>
    bv (g5.set (x4 * 4 + x.2.2 : Int).toNat true) fun l =>
    book_desk_hear_l2 x tl4 l
def book_desk_hear_l1 (hears : List (List (List Int))) (hour : Int) (wind : Int) : List (Int × Int × Int) → (List Bool) → Option (List Bool)
  | [], g3 =>
    some g3
  | x :: tl2, g3 =>
    b1 (if x.1 ≠ hour then
    (some g3)
    else
    (ix hears x.2.1 fun x2 =>
    ix x2 wind fun x3 =>
    book_desk_hear_l2 x x3 g3)) fun g4 =>
    book_desk_hear_l1 hears hour wind tl2 g4
def book_desk_hear (_houses : Int) (_notices : Int) (hears : List (List (List Int))) (_readings : List Int) (cries : List (Int × Int × Int)) (g : List Bool) (hour : Int) (wind : Int) : Option (List Bool) :=
    b1 (book_desk_hear_l1 hears hour wind cries g) fun g2 =>
    some g2
def book_turned_1_l1 (wind : Int) : Nat → Int → Option (List Int)
  | 0, _k =>
    some []
  | fu1 + 1, k =>
    b1 (book_near k wind) fun ok =>
    if ok = true then
    (yl k <|
    book_turned_1_l1 wind fu1 (k + 1))
    else
    (book_turned_1_l1 wind fu1 (k + 1))
def book_turned_1 (wind : Int) : Option (List Int) :=
    gd (R64 0 ∧ R64 8) <|
    book_turned_1_l1 wind (Int.toNat (8 - 0)) 0
def book_turned (wind : Int) : Option (List Int) :=
    b1 (book_turned_1 wind) fun l =>
    some l
def slices_IndexFunc_book_ending_book_ending_j1 : Option Int :=
    some (-1)
def slices_IndexFunc_book_ending_book_ending_l2 (f : ((List Bool) × (List Int)) → Option Bool) : List ((List Bool) × (List Int)) → Int → Option Int
  | [], _k =>
    slices_IndexFunc_book_ending_book_ending_j1
  | x :: tl2, k =>
    b1 (f (x.1, x.2)) fun ok =>
    if ok = true then
    (some k)
    else
    (slices_IndexFunc_book_ending_book_ending_l2 f tl2 (k + 1))
def slices_IndexFunc_book_ending_book_ending (s_ : List ((List Bool) × (List Int))) (f : ((List Bool) × (List Int)) → Option Bool) : Option Int :=
    slices_IndexFunc_book_ending_book_ending_l2 f s_ 0
def slices_ContainsFunc_book_ending_book_ending (s_ : List ((List Bool) × (List Int))) (f : ((List Bool) × (List Int)) → Option Bool) : Option Bool :=
    b1 (slices_IndexFunc_book_ending_book_ending s_ f) fun n =>
    some (decide (0 ≤ n))
def book_desk_endings_1 (_wind : Int) (got : List Bool) (course : List Int) (wind2 : Int) (x : (Int × Int) → Option Bool) (x2 : Int) (houses : Int) (notices : Int) (hears : List (List (List Int))) (readings : List Int) (cries : List (Int × Int × Int)) (x3 : List ((Int × (List Bool)) × Bool)) (next_ : List (Int × (List Bool) × (List Int))) : Option ((List ((Int × (List Bool)) × Bool)) × (List (Int × (List Bool) × (List Int)))) :=
    b1 (x (x2, wind2)) fun ok =>
    if (!ok) = true then
    (some (x3, next_))
    else
    (b1 (book_desk_hear houses notices hears readings cries got x2 wind2) fun a =>
    gd (R64 wind2) <|
    if (!((mget x3 (wind2, a)).getD false)) = true then
    (gd (R64 wind2) <|
    bv (mput x3 (wind2, a) true) fun met =>
    b1 (slices_Clone_int_int course) fun l =>
    ap l [wind2] fun l2 =>
    ap next_ [(wind2, a, l2)] fun l3 =>
    some (met, l3))
    else
    (some (x3, next_)))
def book_desk_endings_2 (got : List Bool) (_course : List Int) (_wind : Int) (got2 : List Bool) (_course2 : List Int) : Option Bool :=
    some (decide (got = got2))
def book_desk_endings_l2 (houses : Int) (notices : Int) (hears : List (List (List Int))) (readings : List Int) (cries : List (Int × Int × Int)) (k : Int) : Nat → Int → (List (Int × (List Bool) × (List Int))) → (List ((Int × (List Bool)) × Bool)) → Option ((List (Int × (List Bool) × (List Int))) × (List ((Int × (List Bool)) × Bool)))
  | 0, _k2, next_5, m2 =>
    some (next_5, m2)
  | fu2 + 1, k2, next_5, m2 =>
    b2 (book_desk_endings_1 0 (List.replicate 24 false) [] k2 (fun xx_ : Int × Int => book_Book_can houses notices hears readings cries xx_.1 xx_.2) k houses notices hears readings cries m2 next_5) fun x2 next_6 =>
    book_desk_endings_l2 houses notices hears readings cries k fu2 (k2 + 1) next_6 x2
def book_desk_endings_l4 (houses : Int) (notices : Int) (hears : List (List (List Int))) (readings : List Int) (cries : List (Int × Int × Int)) (k : Int) (x3 : Int × (List Bool) × (List Int)) : List Int → (List (Int × (List Bool) × (List Int))) → (List ((Int × (List Bool)) × Bool)) → Option ((List (Int × (List Bool) × (List Int))) × (List ((Int × (List Bool)) × Bool)))
  | [], next_10, m5 =>
    some (next_10, m5)
  | x4 :: tl6, next_10, m5 =>
    b2 (book_desk_endings_1 x3.1 x3.2.1 x3.2.2 x4 (fun xx_ : Int × Int => book_Book_can houses notices hears readings cries xx_.1 xx_.2) k houses notices hears readings cries m5 next_10) fun x5 next_11 =>
    book_desk_endings_l4 houses notices hears readings cries k x3 tl6 next_11 x5
def book_desk_endings_l3 (houses : Int) (notices : Int) (hears : List (List (List Int))) (readings : List Int) (cries : List (Int × Int × Int)) (k : Int) : List (Int × (List Bool) × (List Int)) → (List (Int × (List Bool) × (List Int))) → (List ((Int × (List Bool)) × Bool)) → Option (List (Int × (List Bool) × (List Int)))
  | [], next_8, _m3 =>
    some next_8
  | x3 :: tl4, next_8, m3 =>
    b2 (b1 (book_turned x3.1) fun y =>
    book_desk_endings_l4 houses notices hears readings cries k x3 y next_8 m3) fun next_9 m4 =>
    book_desk_endings_l3 houses notices hears readings cries k tl4 next_9 m4
def book_desk_endings_l1 (houses : Int) (notices : Int) (hears : List (List (List Int))) (readings : List Int) (cries : List (Int × Int × Int)) : List Int → Int → (List (Int × (List Bool) × (List Int))) → Option (List (Int × (List Bool) × (List Int)))
  | [], _k, now2 =>
    some now2
  | _x :: tl2, k, now2 =>
    b1 (b2 (if k = 0 then
    (gd (R64 0 ∧ R64 8) <|
    book_desk_endings_l2 houses notices hears readings cries k (Int.toNat (8 - 0)) 0 [] [])
    else
    (some ([], []))) fun next_4 m =>
    b1 (book_desk_endings_l3 houses notices hears readings cries k now2 next_4 m) fun next_7 =>
    some next_7) fun now3 =>
    book_desk_endings_l1 houses notices hears readings cries tl2 (k + 1) now3
def book_desk_endings_l5 : List (Int × (List Bool) × (List Int)) → (List ((List Bool) × (List Int))) → Option (List ((List Bool) × (List Int)))
  | [], out2 =>
    some out2
  | x6 :: tl8, out2 =>
    b1 (slices_ContainsFunc_book_ending_book_ending out2 (fun xx_ : ((List Bool) × (List Int)) => book_desk_endings_2 xx_.1 xx_.2 x6.1 x6.2.1 x6.2.2)) fun ok =>
    if (!ok) = true then
    (ap out2 [(x6.2.1, x6.2.2)] fun out3 =>
    book_desk_endings_l5 tl8 out3)
    else
    (book_desk_endings_l5 tl8 out2)
def book_desk_endings (houses : Int) (notices : Int) (hears : List (List (List Int))) (readings : List Int) (cries : List (Int × Int × Int)) : Option (List ((List Bool) × (List Int))) :=
    b1 (book_desk_endings_l1 houses notices hears readings cries readings 0 []) fun now =>
    b1 (book_desk_endings_l5 now []) fun out =>
    some out
def book_told (houses : Int) (notices : Int) (hears : List (List (List Int))) (readings : List Int) (cries : List (Int × Int × Int)) : Option ((Option (Int × Int × (List (List (List Int))) × (List Int) × (List (Int × Int × Int)))) × (List ((List Bool) × (List Int))) × Int) :=
    b2 (book_opened houses notices hears readings cries) fun d n =>
    if n ≠ 0 then
    (some (none, [], n))
    else
    (b5 d fun houses2 notices2 hears2 readings2 cries2 =>
    b1 (book_desk_endings houses2 notices2 hears2 readings2 cries2) fun l =>
    if (l.length : Int) = 0 then
    (some (none, [], 7))
    else
    (some (some (houses2, notices2, hears2, readings2, cries2), l, 0)))
def book_heard (houses : Int) (notices : Int) (hears : List (List (List Int))) (readings : List Int) (cries : List (Int × Int × Int)) (complaints : List (Int × Int × Bool)) : Option ((List ((List Bool) × (List Int))) × Int) :=
    b1 (book_complained houses notices hears readings cries complaints) fun n =>
    if n ≠ 0 then
    (some ([], n))
    else
    (b3 (book_told houses notices hears readings cries) fun _d l n2 =>
    some (l, n2))
def book_Complaint_is (house : Int) (notice : Int) (heard : Bool) (g : List Bool) : Option Bool :=
    gd (0 ≤ house ∧ house < 6) <|
    gd (0 ≤ notice ∧ notice < 4) <|
    ix g (house * 4 + notice) fun x =>
    some (decide (x = heard))
def book_wrong_l1 (g : List Bool) : List (Int × Int × Bool) → Int → (List Int) → Option (List Int)
  | [], _k, out2 =>
    some out2
  | x :: tl2, k, out2 =>
    b1 (book_Complaint_is x.1 x.2.1 x.2.2 g) fun ok =>
    if (!ok) = true then
    (ap out2 [k] fun out3 =>
    book_wrong_l1 g tl2 (k + 1) out3)
    else
    (book_wrong_l1 g tl2 (k + 1) out2)
def book_wrong (complaints : List (Int × Int × Bool)) (g : List Bool) : Option (List Int) :=
    b1 (book_wrong_l1 g complaints 0 []) fun out =>
    some out
def book_Fewest_l1 (complaints : List (Int × Int × Bool)) : List ((List Bool) × (List Int)) → (List Int) → Option (List Int)
  | [], best2 =>
    some best2
  | x2 :: tl2, best2 =>
    b1 (book_wrong complaints x2.1) fun l4 =>
    b1 (if (l4.length : Int) < (best2.length : Int) then
    (some true)
    else
    (if (l4.length : Int) = (best2.length : Int) then
    (b1 (slices_Compare_int_int l4 best2) fun n2 =>
    some (decide (n2 < 0)))
    else
    (some false))) fun k2 =>
    if k2 = true then
    (book_Fewest_l1 complaints tl2 l4)
    else
    (book_Fewest_l1 complaints tl2 best2)
def book_Fewest (houses : Int) (notices : Int) (hears : List (List (List Int))) (readings : List Int) (cries : List (Int × Int × Int)) (complaints : List (Int × Int × Bool)) : Option ((List Int) × Int) :=
    b2 (book_heard houses notices hears readings cries complaints) fun l n =>
    if n ≠ 0 then
    (some ([], n))
    else
    (ix l 0 fun x =>
    b1 (book_wrong complaints x.1) fun l2 =>
    b1 (gd ((0 ≤ (1 : Int) ∧ (1 : Int) ≤ (l.length : Int)) ∧ (l.length : Int) ≤ l.length) <|
    bv (sl l 1 (l.length : Int)) fun l3 =>
    book_Fewest_l1 complaints l3 l2) fun best =>
    some (best, 0))
def book_goal_find_j1 : Option (List Int) :=
    some []
def book_goal_find_l2 (met : (List Bool) → Option Bool) : List ((List Bool) × (List Int)) → Option (List Int)
  | [] =>
    book_goal_find_j1
  | x :: tl2 =>
    b1 (met x.1) fun ok =>
    if ok = true then
    (gd (x.2 ≠ []) <|
    some x.2)
    else
    (book_goal_find_l2 met tl2)
def book_goal_find (met : (List Bool) → Option Bool) (l : List ((List Bool) × (List Int))) : Option (List Int) :=
    book_goal_find_l2 met l
def book_Together_1 (g : List Bool) (complaints : List (Int × Int × Bool)) : Option Bool :=
    b1 (book_wrong complaints g) fun l =>
    some (decide ((l.length : Int) = 0))
def book_Together (houses : Int) (notices : Int) (hears : List (List (List Int))) (readings : List Int) (cries : List (Int × Int × Int)) (complaints : List (Int × Int × Bool)) : Option ((List Int) × Int) :=
    b2 (book_heard houses notices hears readings cries complaints) fun l n =>
    if n ≠ 0 then
    (some ([], n))
    else
    (b1 (book_goal_find (fun xx_ : (List Bool) => book_Together_1 xx_ complaints) l) fun l2 =>
    if l2 = [] then
    (some ([], 6))
    else
    (some (l2, 0)))
def book_Witness (houses : Int) (notices : Int) (hears : List (List (List Int))) (readings : List Int) (cries : List (Int × Int × Int)) (house : Int) (notice : Int) (heard : Bool) : Option ((List Int) × Int) :=
    b2 (book_Together houses notices hears readings cries [(house, notice, heard)]) fun l n =>
    some (l, n)
def book_Refuted (houses : Int) (notices : Int) (hears : List (List (List Int))) (readings : List Int) (cries : List (Int × Int × Int)) (house : Int) (notice : Int) (heard : Bool) : Option (Bool × Int) :=
    b2 (book_Witness houses notices hears readings cries house notice heard) fun _l n =>
    if n = 0 then
    (some (false, 0))
    else
    (if n = 6 then
    (some (true, 0))
    else
    (some (false, n)))
def book_Verdicts_l3 (k : Int) (k2 : Int) : List ((List Bool) × (List Int)) → Int → Option Int
  | [], many2 =>
    some many2
  | x :: tl2, many2 =>
    gd (0 ≤ k ∧ k < 6) <|
    gd (0 ≤ k2 ∧ k2 < 4) <|
    ix x.1 (k * 4 + k2) fun x2 =>
    if x2 = true then
    (gd (R64 (many2 + 1)) <|
    book_Verdicts_l3 k k2 tl2 (many2 + 1))
    else
    (book_Verdicts_l3 k k2 tl2 many2)
def book_Verdicts_l2 (l : List ((List Bool) × (List Int))) (k : Int) : Nat → Int → (List (List Int)) → Option (List (List Int))
  | 0, _k2, out4 =>
    some out4
  | fu2 + 1, k2, out4 =>
    b1 (b1 (book_Verdicts_l3 k k2 l 0) fun many =>
    b1 (if many = (l.length : Int) then
    (some 1)
    else
    (if many = 0 then
    (some 2)
    else
    (some 0))) fun v =>
    ix out4 k fun x3 =>
    ap x3 [v] fun l3 =>
    bv (out4.set (k : Int).toNat l3) fun out6 =>
    some out6) fun out5 =>
    book_Verdicts_l2 l k fu2 (k2 + 1) out5
def book_Verdicts_l1 (notices : Int) (l : List ((List Bool) × (List Int))) : Nat → Int → (List (List Int)) → Option (List (List Int))
  | 0, _k, out2 =>
    some out2
  | fu1 + 1, k, out2 =>
    b1 (gd (R64 0 ∧ R64 notices) <|
    book_Verdicts_l2 l k (Int.toNat (notices - 0)) 0 out2) fun out3 =>
    book_Verdicts_l1 notices l fu1 (k + 1) out3
def book_Verdicts (houses : Int) (notices : Int) (hears : List (List (List Int))) (readings : List Int) (cries : List (Int × Int × Int)) : Option ((List (List Int)) × Int) :=
    b3 (book_told houses notices hears readings cries) fun _d l n =>
    if n ≠ 0 then
    (some ([], n))
    else
    (gd (0 ≤ houses ∧ houses ≤ 1048576) <|
    bv (List.replicate (houses : Int).toNat [] : List (List Int)) fun l2 =>
    b1 (gd (R64 0 ∧ R64 (l2.length : Int)) <|
    book_Verdicts_l1 notices l (Int.toNat ((l2.length : Int) - 0)) 0 l2) fun out =>
    some (out, 0))
def book_desk_ways_l3 (k : Int) (k2 : Int) : List Int → (List (List Int)) → Option (List (List Int))
  | [], out6 =>
    some out6
  | x3 :: tl2, out6 =>
    ix out6 k fun x4 =>
    ix x4 k2 fun x5 =>
    gd (R64 (k - 1)) <|
    ix out6 (k - 1) fun x6 =>
    ix x6 x3 fun x7 =>
    gd (R64 (x5 + x7)) <|
    bv (out6.set (k : Int).toNat (x4.set (k2 : Int).toNat (x5 + x7))) fun l3 =>
    book_desk_ways_l3 k k2 tl2 l3
def book_desk_ways_l2 (houses : Int) (notices : Int) (hears : List (List (List Int))) (readings : List Int) (cries : List (Int × Int × Int)) (k : Int) : Nat → Int → (List (List Int)) → Option (List (List Int))
  | 0, _k2, out4 =>
    some out4
  | fu2 + 1, k2, out4 =>
    b1 (b1 (book_Book_can houses notices hears readings cries k k2) fun ok =>
    if (!ok) = true then
    (some out4)
    else
    (if k = 0 then
    (ix out4 k fun x =>
    ix x k2 fun _x2 =>
    bv (out4.set (k : Int).toNat (x.set (k2 : Int).toNat 1)) fun l2 =>
    some l2)
    else
    (b1 (book_turned k2) fun y =>
    book_desk_ways_l3 k k2 y out4))) fun out5 =>
    book_desk_ways_l2 houses notices hears readings cries k fu2 (k2 + 1) out5
def book_desk_ways_l1 (houses : Int) (notices : Int) (hears : List (List (List Int))) (readings : List Int) (cries : List (Int × Int × Int)) : Nat → Int → (List (List Int)) → Option (List (List Int))
  | 0, _k, out2 =>
    some out2
  | fu1 + 1, k, out2 =>
    b1 (gd (R64 0 ∧ R64 8) <|
    book_desk_ways_l2 houses notices hears readings cries k (Int.toNat (8 - 0)) 0 out2) fun out3 =>
    book_desk_ways_l1 houses notices hears readings cries fu1 (k + 1) out3
def book_desk_ways (houses : Int) (notices : Int) (hears : List (List (List Int))) (readings : List Int) (cries : List (Int × Int × Int)) : Option (List (List Int)) :=
    gd (0 ≤ (readings.length : Int) ∧ (readings.length : Int) ≤ 1048576) <|
    bv (List.replicate ((readings.length : Int) : Int).toNat (List.replicate 8 0) : List (List Int)) fun l =>
    b1 (gd (R64 0 ∧ R64 (l.length : Int)) <|
    book_desk_ways_l1 houses notices hears readings cries (Int.toNat ((l.length : Int) - 0)) 0 l) fun out =>
    some out
def slices_Reverse_int_int_l1 : Nat → (List Int) → Int → Int → Option (List Int)
  | 0, _, _, _ => none
  | fu1 + 1, s_2, i, j =>
    if i < j then
    (ix s_2 j fun x =>
    ix s_2 i fun x2 =>
    bv (s_2.set (i : Int).toNat x) fun l =>
    ix l j fun _x3 =>
    bv (l.set (j : Int).toNat x2) fun l2 =>
    gd (R64 (i + 1)) <|
    gd (R64 (j - 1)) <|
    slices_Reverse_int_int_l1 fu1 l2 (i + 1) (j - 1))
    else
    (some s_2)
def slices_Reverse_int_int (s_ : List Int) : Option (List Int) :=
    gd (R64 ((s_.length : Int) - 1)) <|
    slices_Reverse_int_int_l1 FU s_ 0 ((s_.length : Int) - 1)
def book_desk_through_l2 (l3 : List (List Int)) (k : Int) : Nat → Int → (List (List Int)) → Option (List (List Int))
  | 0, _k2, there4 =>
    some there4
  | fu2 + 1, k2, there4 =>
    ix there4 k fun x =>
    ix x k2 fun x2 =>
    gd (R64 ((l3.length : Int) - 1)) <|
    gd (R64 (((l3.length : Int) - 1) - k)) <|
    ix l3 (((l3.length : Int) - 1) - k) fun x3 =>
    ix x3 k2 fun x4 =>
    gd (R64 (x2 * x4)) <|
    bv (there4.set (k : Int).toNat (x.set (k2 : Int).toNat (x2 * x4))) fun l4 =>
    book_desk_through_l2 l3 k fu2 (k2 + 1) l4
def book_desk_through_l1 (l3 : List (List Int)) : Nat → Int → (List (List Int)) → Option (List (List Int))
  | 0, _k, there2 =>
    some there2
  | fu1 + 1, k, there2 =>
    b1 (gd (R64 0 ∧ R64 8) <|
    book_desk_through_l2 l3 k (Int.toNat (8 - 0)) 0 there2) fun there3 =>
    book_desk_through_l1 l3 fu1 (k + 1) there3
def book_desk_through (houses : Int) (notices : Int) (hears : List (List (List Int))) (readings : List Int) (cries : List (Int × Int × Int)) : Option (List (List Int)) :=
    b1 (book_desk_ways houses notices hears readings cries) fun l =>
    b1 (slices_Clone_int_int readings) fun l2 =>
    b1 (slices_Reverse_int_int l2) fun s_ =>
    b1 (book_desk_ways 0 0 [] s_ []) fun l3 =>
    b1 (gd (R64 0 ∧ R64 (l.length : Int)) <|
    book_desk_through_l1 l3 (Int.toNat ((l.length : Int) - 0)) 0 l) fun there =>
    some there
def book_Count_l1 (x : List Int) : Nat → Int → Int → Option Int
  | 0, _k, n3 =>
    some n3
  | fu1 + 1, k, n3 =>
    ix x k fun x2 =>
    gd (R64 (n3 + x2)) <|
    book_Count_l1 x fu1 (k + 1) (n3 + x2)
def book_Count (houses : Int) (notices : Int) (hears : List (List (List Int))) (readings : List Int) (cries : List (Int × Int × Int)) : Option (Int × Int) :=
    b2 (book_opened houses notices hears readings cries) fun d n =>
    if n ≠ 0 then
    (some (0, n))
    else
    (b1 (b5 d fun houses2 notices2 hears2 readings2 cries2 =>
    b1 (book_desk_through houses2 notices2 hears2 readings2 cries2) fun l =>
    ix l 0 fun x =>
    gd (R64 0 ∧ R64 8) <|
    book_Count_l1 x (Int.toNat (8 - 0)) 0 0) fun n2 =>
    some (n2, 0))
def oyezlaw07_Bell : Option (Int × Int × (List (List (List Int))) × (List Int) × (List (Int × Int × Int))) :=
    some (2, 1, [[[0], [0, 1], [1], [1], [], [], [], []]], [1, -1, 4], [(0, 0, 0), (2, 0, 0)])
def book_Winds_l4 (x : List Int) : Nat → Int → (List Int) → Option (List Int)
  | 0, _k2, own2 =>
    some own2
  | fu4 + 1, k2, own2 =>
    ix x k2 fun x2 =>
    if 0 < x2 then
    (ap own2 [k2] fun own3 =>
    book_Winds_l4 x fu4 (k2 + 1) own3)
    else
    (book_Winds_l4 x fu4 (k2 + 1) own2)
def book_Winds_j3 (rec2 : (List (List Int)) → Option ((List (List Int)) × Int)) (out3 : List (List Int)) : Option ((List (List Int)) × Int) :=
    rec2 out3
def book_Winds_j1 (out : List (List Int)) : Option ((List (List Int)) × Int) :=
    some (out, 0)
def book_Winds_l2 : List (List Int) → (List (List Int)) → Option ((List (List Int)) × Int)
  | [], out2 =>
    book_Winds_j1 out2
  | x :: tl2, out2 =>
    b1 (gd (R64 0 ∧ R64 8) <|
    book_Winds_l4 x (Int.toNat (8 - 0)) 0 []) fun own =>
    if (own.length : Int) = 0 then
    (some ([], 7))
    else
    (ap out2 [own] fun out4 =>
    book_Winds_j3 (book_Winds_l2 tl2) out4)
def book_Winds (houses : Int) (notices : Int) (hears : List (List (List Int))) (readings : List Int) (cries : List (Int × Int × Int)) : Option ((List (List Int)) × Int) :=
    b2 (book_opened houses notices hears readings cries) fun d n =>
    if n ≠ 0 then
    (some ([], n))
    else
    (b5 d fun houses2 notices2 hears2 readings2 cries2 =>
    b1 (book_desk_through houses2 notices2 hears2 readings2 cries2) fun l =>
    book_Winds_l2 l [])
def book_First_l2 (out2 : List Int) (k : Int) : List Int → Option (List Int)
  | [] =>
    some out2
  | x2 :: tl4 =>
    b1 (if k = 0 then
    (some true)
    else
    (gd (R64 (k - 1)) <|
    ix out2 (k - 1) fun x3 =>
    b1 (book_near x2 x3) fun ok =>
    some ok)) fun k3 =>
    if k3 = true then
    (ap out2 [x2] fun out4 =>
    some out4)
    else
    (book_First_l2 out2 k tl4)
def book_First_l1 : List (List Int) → Int → (List Int) → Option (List Int)
  | [], _k, out2 =>
    some out2
  | x :: tl2, k, out2 =>
    b1 (book_First_l2 out2 k x) fun out3 =>
    book_First_l1 tl2 (k + 1) out3
def book_First (houses : Int) (notices : Int) (hears : List (List (List Int))) (readings : List Int) (cries : List (Int × Int × Int)) : Option ((List Int) × Int) :=
    b2 (book_Winds houses notices hears readings cries) fun l n =>
    if n ≠ 0 then
    (some ([], n))
    else
    (b1 (book_First_l1 l 0 []) fun out =>
    some (out, 0))
def slices_Equal_int_int_j1 : Option Bool :=
    some true
def slices_Equal_int_int_l2 (s2 : List Int) : List Int → Int → Option Bool
  | [], _k =>
    slices_Equal_int_int_j1
  | x :: tl2, k =>
    ix s2 k fun x2 =>
    if x ≠ x2 then
    (some false)
    else
    (slices_Equal_int_int_l2 s2 tl2 (k + 1))
def slices_Equal_int_int (s1 : List Int) (s2 : List Int) : Option Bool :=
    if (s1.length : Int) ≠ (s2.length : Int) then
    (some false)
    else
    (slices_Equal_int_int_l2 s2 s1 0)
def oyezkit_Like_int (a : List Int) (b : List Int) : Option Bool :=
    b1 (slices_Equal_int_int a b) fun ok =>
    some ok
def slices_EqualFunc_book_Verdict_book_Verdict_book_Verdict_book_Verdict_j1 : Option Bool :=
    some true
def slices_EqualFunc_book_Verdict_book_Verdict_book_Verdict_book_Verdict_l2 (s2 : List (List Int)) (eq : ((List Int) × (List Int)) → Option Bool) : List (List Int) → Int → Option Bool
  | [], _k =>
    slices_EqualFunc_book_Verdict_book_Verdict_book_Verdict_book_Verdict_j1
  | x :: tl2, k =>
    ix s2 k fun x2 =>
    b1 (eq (x, x2)) fun ok =>
    if (!ok) = true then
    (some false)
    else
    (slices_EqualFunc_book_Verdict_book_Verdict_book_Verdict_book_Verdict_l2 s2 eq tl2 (k + 1))
def slices_EqualFunc_book_Verdict_book_Verdict_book_Verdict_book_Verdict (s1 : List (List Int)) (s2 : List (List Int)) (eq : ((List Int) × (List Int)) → Option Bool) : Option Bool :=
    if (s1.length : Int) ≠ (s2.length : Int) then
    (some false)
    else
    (slices_EqualFunc_book_Verdict_book_Verdict_book_Verdict_book_Verdict_l2 s2 eq s1 0)
def slices_Equal_book_Verdict_book_Verdict_j1 : Option Bool :=
    some true
def slices_Equal_book_Verdict_book_Verdict_l2 (s2 : List Int) : List Int → Int → Option Bool
  | [], _k =>
    slices_Equal_book_Verdict_book_Verdict_j1
  | x :: tl2, k =>
    ix s2 k fun x2 =>
    if x ≠ x2 then
    (some false)
    else
    (slices_Equal_book_Verdict_book_Verdict_l2 s2 tl2 (k + 1))
def slices_Equal_book_Verdict_book_Verdict (s1 : List Int) (s2 : List Int) : Option Bool :=
    if (s1.length : Int) ≠ (s2.length : Int) then
    (some false)
    else
    (slices_Equal_book_Verdict_book_Verdict_l2 s2 s1 0)
def oyezkit_LikeRows_Verdict (a : List (List Int)) (b : List (List Int)) : Option Bool :=
    b1 (slices_EqualFunc_book_Verdict_book_Verdict_book_Verdict_book_Verdict a b (fun xx_ : (List Int) × (List Int) => slices_Equal_book_Verdict_book_Verdict xx_.1 xx_.2)) fun ok =>
    some ok
def slices_EqualFunc_int_int_int_int_j1 : Option Bool :=
    some true
def slices_EqualFunc_int_int_int_int_l2 (s2 : List (List Int)) (eq : ((List Int) × (List Int)) → Option Bool) : List (List Int) → Int → Option Bool
  | [], _k =>
    slices_EqualFunc_int_int_int_int_j1
  | x :: tl2, k =>
    ix s2 k fun x2 =>
    b1 (eq (x, x2)) fun ok =>
    if (!ok) = true then
    (some false)
    else
    (slices_EqualFunc_int_int_int_int_l2 s2 eq tl2 (k + 1))
def slices_EqualFunc_int_int_int_int (s1 : List (List Int)) (s2 : List (List Int)) (eq : ((List Int) × (List Int)) → Option Bool) : Option Bool :=
    if (s1.length : Int) ≠ (s2.length : Int) then
    (some false)
    else
    (slices_EqualFunc_int_int_int_int_l2 s2 eq s1 0)
def oyezkit_LikeRows_int (a : List (List Int)) (b : List (List Int)) : Option Bool :=
    b1 (slices_EqualFunc_int_int_int_int a b (fun xx_ : (List Int) × (List Int) => slices_Equal_int_int xx_.1 xx_.2)) fun ok =>
    some ok
def slices_Clone_book_Cry_book_Cry (s_ : List (Int × Int × Int)) : Option (List (Int × Int × Int)) :=
    nilIf (s_ = []) (some []) (ap ([] : List (Int × Int × Int)) s_ fun l =>
    some l)
def book_Again_1_1_1 (h : Int) (g : List Bool) (x : Int) : Option Bool :=
    gd (0 ≤ h ∧ h < 6) <|
    gd (0 ≤ x ∧ x < 4) <|
    ix g (h * 4 + x) fun x2 =>
    some x2
def book_Again_1_1 (g : List Bool) (x : List Int) (x2 : Int) : Option Bool :=
    b1 (book_every_int x (fun xx_ : Int => book_Again_1_1_1 xx_ g x2)) fun ok =>
    some (!ok)
def book_Again_1B_l2 (hour : Int) (notice : Int) : List Int → (List (Int × Int × Int)) → Option (List (Int × Int × Int))
  | [], d_cries2 =>
    some d_cries2
  | x :: tl2, d_cries2 =>
    ap d_cries2 [(hour, x, notice)] fun l3 =>
    book_Again_1B_l2 hour notice tl2 l3
def book_Again_1B_j3 (out2 : List Int) (found2 : Bool) : Option (Bool × (List Int) × Bool) :=
    some (false, out2, found2)
def book_Again_1B_l4 (l : List Int) (many : Int) (houses : Int) (notices : Int) (hears : List (List (List Int))) (readings : List Int) (cries : List (Int × Int × Int)) (hour : Int) (notice : Int) (houses2 : List Int) (rec_ : (List Int) → Int → Int → Int → Int → (List (List (List Int))) → (List Int) → (List (Int × Int × Int)) → Int → Int → (List Int) → (List Int) → Bool → Option (Bool × (List Int) × Bool)) : Nat → Int → (List Int) → Bool → Option (Bool × (List Int) × Bool)
  | 0, _s_, out3, found3 =>
    book_Again_1B_j3 out3 found3
  | fu4 + 1, s_, out3, found3 =>
    gd (R64 (many - 1)) <|
    b1 (slices_Clone_int_int l) fun l6 =>
    ap l6 [s_] fun l7 =>
    b3 (rec_ l7 (s_ + 1) (many - 1) houses notices hears readings cries hour notice houses2 out3 found3) fun ok out4 found4 =>
    if ok = true then
    (some (true, out4, found4))
    else
    (book_Again_1B_l4 l many houses notices hears readings cries hour notice houses2 rec_ fu4 (s_ + 1) out4 found4)
def book_Again_1B_j1 (l : List Int) (from_ : Int) (many : Int) (houses : Int) (notices : Int) (hears : List (List (List Int))) (readings : List Int) (cries : List (Int × Int × Int)) (hour : Int) (notice : Int) (houses2 : List Int) (out : List Int) (found : Bool) (rec_ : (List Int) → Int → Int → Int → Int → (List (List (List Int))) → (List Int) → (List (Int × Int × Int)) → Int → Int → (List Int) → (List Int) → Bool → Option (Bool × (List Int) × Bool)) : Option (Bool × (List Int) × Bool) :=
    gd (R64 from_ ∧ R64 (hears.length : Int)) <|
    book_Again_1B_l4 l many houses notices hears readings cries hour notice houses2 rec_ (Int.toNat ((hears.length : Int) - from_)) from_ out found
def book_Again_1B (rec_ : (List Int) → Int → Int → Int → Int → (List (List (List Int))) → (List Int) → (List (Int × Int × Int)) → Int → Int → (List Int) → (List Int) → Bool → Option (Bool × (List Int) × Bool)) (l : List Int) (from_ : Int) (many : Int) (houses : Int) (notices : Int) (hears : List (List (List Int))) (readings : List Int) (cries : List (Int × Int × Int)) (hour : Int) (notice : Int) (houses2 : List Int) (out : List Int) (found : Bool) : Option (Bool × (List Int) × Bool) :=
    if many = 0 then
    (b1 (slices_Clone_book_Cry_book_Cry cries) fun l2 =>
    b1 (book_Again_1B_l2 hour notice l l2) fun d_cries =>
    b1 (book_desk_endings houses notices hears readings d_cries) fun l4 =>
    b1 (book_goal_find (fun xx_ : (List Bool) => book_Again_1_1 xx_ houses2 notice) l4) fun l5 =>
    if l5 = [] then
    (some (true, l, true))
    else
    (some (found, out, found)))
    else
    book_Again_1B_j1 l from_ many houses notices hears readings cries hour notice houses2 out found rec_
def book_Again_1 : Nat → (List Int) → Int → Int → Int → Int → (List (List (List Int))) → (List Int) → (List (Int × Int × Int)) → Int → Int → (List Int) → (List Int) → Bool → Option (Bool × (List Int) × Bool)
  | 0, _, _, _, _, _, _, _, _, _, _, _, _, _ => none
  | fu + 1, l, from_, many, houses, notices, hears, readings, cries, hour, notice, houses2, out, found =>
    book_Again_1B (book_Again_1 fu) l from_ many houses notices hears readings cries hour notice houses2 out found
def book_Again_l1 (houses : Int) (notices : Int) (hears : List (List (List Int))) (readings : List Int) (cries : List (Int × Int × Int)) (notice : Int) (hour : Int) (houses2 : List Int) : Nat → Int → (List Int) → Bool → Option ((List Int) × Bool)
  | 0, _k2, out2, found2 =>
    some (out2, found2)
  | fu1 + 1, k2, out2, found2 =>
    b3 (book_Again_1 FU [] 0 k2 houses notices hears readings cries hour notice houses2 out2 found2) fun ok3 out3 found3 =>
    if ok3 = true then
    (some (out3, found3))
    else
    (book_Again_l1 houses notices hears readings cries notice hour houses2 fu1 (k2 + 1) out3 found3)
def book_Again (houses : Int) (notices : Int) (hears : List (List (List Int))) (readings : List Int) (cries : List (Int × Int × Int)) (notice : Int) (hour : Int) (houses2 : List Int) : Option ((List Int) × Int) :=
    b1 (book_Check houses notices hears readings cries) fun n =>
    if n ≠ 0 then
    (some ([], n))
    else
    (b1 (b1 (book_Book_notice houses notices hears readings cries notice) fun ok =>
    if (!ok) = true then
    (some true)
    else
    (b1 (book_Book_hour houses notices hears readings cries hour) fun ok2 =>
    some (!ok2))) fun k =>
    if k = true then
    (some ([], 1))
    else
    (b1 (book_Book_listed houses notices hears readings cries houses2) fun n2 =>
    if n2 ≠ 0 then
    (some ([], n2))
    else
    (b3 (book_told houses notices hears readings cries) fun _d _l n3 =>
    if n3 ≠ 0 then
    (some ([], n3))
    else
    (b2 (gd (R64 ((hears.length : Int) + 1)) <|
    gd (R64 0 ∧ R64 ((hears.length : Int) + 1)) <|
    book_Again_l1 houses notices hears readings cries notice hour houses2 (Int.toNat (((hears.length : Int) + 1) - 0)) 0 [] false) fun out found =>
    if (!found) = true then
    (some ([], 6))
    else
    (some (out, 0))))))
def oyezlaw07_awake : Option Bool :=
    b5 (oyezlaw07_Bell) fun n n2 l l2 l3 =>
    b2 (book_Count n n2 l l2 l3) fun n3 n4 =>
    b5 (oyezlaw07_Bell) fun n5 n6 l4 l5 l6 =>
    b2 (book_First n5 n6 l4 l5 l6) fun l7 n7 =>
    b5 (oyezlaw07_Bell) fun n8 n9 l8 l9 l10 =>
    b2 (book_Verdicts n8 n9 l8 l9 l10) fun l11 n10 =>
    b5 (oyezlaw07_Bell) fun n11 n12 l12 l13 l14 =>
    b2 (book_Winds n11 n12 l12 l13 l14) fun l15 n13 =>
    b1 (if n4 ≠ 0 then
    (some true)
    else
    (if n7 ≠ 0 then
    (some true)
    else
    (if n10 ≠ 0 then
    (some true)
    else
    (if n13 ≠ 0 then
    (some true)
    else
    (if n3 ≠ 4 then
    (some true)
    else
    (b1 (oyezkit_Like_int l7 [1, 2, 3]) fun ok =>
    if (!ok) = true then
    (some true)
    else
    (b1 (oyezkit_LikeRows_Verdict l11 [[0], [1]]) fun ok2 =>
    if (!ok2) = true then
    (some true)
    else
    (b1 (oyezkit_LikeRows_int l15 [[1, 2], [2, 3], [3, 4]]) fun ok3 =>
    some (!ok3))))))))) fun k =>
    if k = true then
    (some false)
    else
    (b5 (oyezlaw07_Bell) fun n14 n15 l16 l17 l18 =>
    b2 (book_Fewest n14 n15 l16 l17 l18 [(0, 0, true), (0, 0, false)]) fun l19 n16 =>
    b5 (oyezlaw07_Bell) fun n17 n18 l20 l21 l22 =>
    b2 (book_Refuted n17 n18 l20 l21 l22 1 0 false) fun ok4 n19 =>
    ix [(0, 0, true), (0, 0, false)] 0 fun x =>
    b5 (oyezlaw07_Bell) fun n20 n21 l23 l24 l25 =>
    b2 (book_Witness n20 n21 l23 l24 l25 x.1 x.2.1 x.2.2) fun l26 n22 =>
    b5 (oyezlaw07_Bell) fun n23 n24 l27 l28 l29 =>
    b2 (book_Again n23 n24 l27 l28 l29 0 1 [0]) fun _l30 n25 =>
    if n16 = 0 then
    (if n19 = 0 then
    (if n22 = 0 then
    (if n25 = 6 then
    (if ok4 = true then
    (b1 (oyezkit_Like_int l19 [0]) fun ok5 =>
    if ok5 = true then
    (b1 (oyezkit_Like_int l26 [1, 2, 3]) fun ok6 =>
    some ok6)
    else
    (some false))
    else
    (some false))
    else
    (some false))
    else
    (some false))
    else
    (some false))
    else
    (some false))
def oyezlaw01_Made_l1 (metal : List Int) : Nat → Int → Int → (List Int) → Int → Option (Int × Int × (List Int))
  | 0, b_at2, b_turn2, t_plots2, _left_ =>
    some (b_at2, b_turn2, t_plots2)
  | fu1 + 1, b_at2, b_turn2, t_plots2, left_ =>
    b3 (oyezkit_Bell_Stroke metal b_at2 b_turn2 5) fun n3 at_4 turn4 =>
    ix [0, 0, 0, 1, 1, 2] n3 fun x =>
    b2 (if x = 1 then
    (gd (R64 (left_ - 1)) <|
    if (left_ - 1) < 0 then
    (some (left_ - 1, 0))
    else
    (some (left_ - 1, x)))
    else
    (some (left_, x))) fun left_2 p =>
    ap t_plots2 [p] fun t =>
    oyezlaw01_Made_l1 metal fu1 at_4 turn4 t left_2
def oyezlaw01_Made (metal : List Int) (at_ : Int) (turn : Int) (plots : Int) : Option (Int × (List Int) × Int × Int) :=
    b3 (oyezkit_Bell_Strike metal at_ turn 1 6) fun n at_2 turn2 =>
    gd ((n : Int) ≠ 0 ∧ R64 (Int.tdiv plots n)) <|
    b3 (oyezkit_Bell_Strike metal at_2 turn2 1 (if Int.tdiv plots n > 1 then Int.tdiv plots n else 1)) fun n2 at_3 turn3 =>
    b3 (gd (R64 (n2 * n)) <|
    gd (R64 0 ∧ R64 (n2 * n)) <|
    oyezlaw01_Made_l1 metal (Int.toNat ((n2 * n) - 0)) at_3 turn3 [] 10) fun b_at b_turn t_plots =>
    gd (R64 ((t_plots.length : Int) - 1)) <|
    b3 (oyezkit_Bell_Stroke metal b_at b_turn ((t_plots.length : Int) - 1)) fun n4 at_5 turn5 =>
    ix t_plots n4 fun _x2 =>
    bv (t_plots.set (n4 : Int).toNat 0) fun l =>
    some (n, l, at_5, turn5)
def oyezlaw01_Aired (metal : List Int) (at_ : Int) (turn : Int) : Option (Int × Int × Int × Int) :=
    b3 (oyezkit_Bell_Stroke metal at_ turn 4) fun n at_2 turn2 =>
    b3 (oyezkit_Bell_Strike metal at_2 turn2 1 16) fun n2 at_3 turn3 =>
    some (n, n2, at_3, turn3)
def hear_in (n : Int) (lo : Int) (hi : Int) : Option Bool :=
    if lo ≤ n then
    (some (decide (n ≤ hi)))
    else
    (some false)
def slices_IndexFunc_hear_Plot_hear_Plot_j1 : Option Int :=
    some (-1)
def slices_IndexFunc_hear_Plot_hear_Plot_l2 (f : Int → Option Bool) : List Int → Int → Option Int
  | [], _k =>
    slices_IndexFunc_hear_Plot_hear_Plot_j1
  | x :: tl2, k =>
    b1 (f x) fun ok =>
    if ok = true then
    (some k)
    else
    (slices_IndexFunc_hear_Plot_hear_Plot_l2 f tl2 (k + 1))
def slices_IndexFunc_hear_Plot_hear_Plot (s_ : List Int) (f : Int → Option Bool) : Option Int :=
    slices_IndexFunc_hear_Plot_hear_Plot_l2 f s_ 0
def slices_ContainsFunc_hear_Plot_hear_Plot (s_ : List Int) (f : Int → Option Bool) : Option Bool :=
    b1 (slices_IndexFunc_hear_Plot_hear_Plot s_ f) fun n =>
    some (decide (0 ≤ n))
def hear_every_Plot_1 (x : Int) (so : Int → Option Bool) : Option Bool :=
    b1 (so x) fun ok =>
    some (!ok)
def hear_every_Plot (l : List Int) (so : Int → Option Bool) : Option Bool :=
    b1 (slices_ContainsFunc_hear_Plot_hear_Plot l (fun xx_ : Int => hear_every_Plot_1 xx_ so)) fun ok =>
    some (!ok)
def hear_Check_1 (p : Int) : Option Bool :=
    b1 (hear_in p 0 2) fun ok =>
    some ok
def hear_Town_houses_l1 : List Int → Int → Option Int
  | [], n2 =>
    some n2
  | x :: tl2, n2 =>
    if x = 1 then
    (gd (R64 (n2 + 1)) <|
    hear_Town_houses_l1 tl2 (n2 + 1))
    else
    (hear_Town_houses_l1 tl2 n2)
def hear_Town_houses (_wide : Int) (plots : List Int) : Option Int :=
    b1 (hear_Town_houses_l1 plots 0) fun n =>
    some n
def hear_Check (wide : Int) (plots : List Int) : Option Int :=
    b1 (b1 (hear_in wide 1 6) fun ok =>
    if (!ok) = true then
    (some true)
    else
    (b1 (hear_in (plots.length : Int) 1 30) fun ok2 =>
    if (!ok2) = true then
    (some true)
    else
    (gd (wide ≠ 0) <|
    some (decide ((Int.tmod (plots.length : Int) wide) ≠ 0))))) fun k =>
    if k = true then
    (some 2)
    else
    (b1 (hear_every_Plot plots (fun xx_ : Int => hear_Check_1 xx_)) fun ok3 =>
    if (!ok3) = true then
    (some 3)
    else
    (b1 (hear_Town_houses wide plots) fun n =>
    if 10 < n then
    (some 2)
    else
    (some 0)))
def hear_Dir_there (w : Int) : Option Bool :=
    b1 (hear_in w 0 4) fun ok =>
    some ok
def hear_CheckAir (wind : Int) (voice : Int) : Option Int :=
    b1 (b1 (hear_Dir_there wind) fun ok =>
    if (!ok) = true then
    (some true)
    else
    (b1 (hear_in voice 1 40) fun ok2 =>
    some (!ok2))) fun k =>
    if k = true then
    (some 3)
    else
    (some 0)
def hear_Town_plot (_wide : Int) (plots : List Int) (p : Int) : Option Bool :=
    gd (R64 ((plots.length : Int) - 1)) <|
    b1 (hear_in p 0 ((plots.length : Int) - 1)) fun ok =>
    some ok
def hear_Town_is (wide : Int) (plots : List Int) (p : Int) (kind : Int) : Option Int :=
    b1 (hear_Town_plot wide plots p) fun ok =>
    if (!ok) = true then
    (some 1)
    else
    (ix plots p fun x =>
    if x ≠ kind then
    (some 8)
    else
    (some 0))
def hear_steps : Option (List (Int × (Int × Int))) :=
    bv (mput [] 1 (-1, 0)) fun met =>
    bv (mput met 2 (0, 1)) fun met2 =>
    bv (mput met2 3 (1, 0)) fun met3 =>
    bv (mput met3 4 (0, -1)) fun met4 =>
    some met4
def hear_opened (wide : Int) (plots : List Int) (wind : Int) : Option ((Option (Int × (List Int) × Int × Int × Bool)) × Int) :=
    b1 (hear_Check wide plots) fun n =>
    if n ≠ 0 then
    (some (none, n))
    else
    (b1 (hear_Dir_there wind) fun ok =>
    if (!ok) = true then
    (some (none, 3))
    else
    (b1 (hear_steps) fun m =>
    some (some (wide, plots, ((mget m wind).getD (0, 0)).1, ((mget m wind).getD (0, 0)).2, (mget m wind).isSome), 0)))
def hear_standing (wide : Int) (plots : List Int) (wind : Int) (stand : Int) : Option ((Option (Int × (List Int) × Int × Int × Bool)) × Int) :=
    b2 (hear_opened wide plots wind) fun d n =>
    if n ≠ 0 then
    (some (none, n))
    else
    (b1 (hear_Town_is wide plots stand 0) fun n2 =>
    if n2 ≠ 0 then
    (some (none, n2))
    else
    (some (d, 0)))
def hear_Town_wall (_wide : Int) (plots : List Int) (p : Int) : Option Bool :=
    ix plots p fun x =>
    some (decide (x = 2))
def hear_step_back (down : Int) (right_ : Int) : Option (Int × Int) :=
    gd (R64 (-down)) <|
    gd (R64 (-right_)) <|
    some (-down, -right_)
def hear_desk_needs (_wide : Int) (plots : List Int) (down : Int) (right_ : Int) (blows : Bool) (down2 : Int) (right_2 : Int) (to : Int) : Option Int :=
    b1 (if (!blows) = true then
    (some 2)
    else
    (if down2 = down ∧ right_2 = right_ then
    (some 1)
    else
    (b2 (hear_step_back down right_) fun n2 n3 =>
    if down2 = n2 ∧ right_2 = n3 then
    (some 4)
    else
    (some 2)))) fun n =>
    ix plots to fun x =>
    if x = 1 then
    (gd (R64 (n + 1)) <|
    some (n + 1))
    else
    (some n)
def hear_desk_next_1_l1 (p : Int) (wide : Int) (plots : List Int) (down : Int) (right_ : Int) (blows : Bool) (closed : Int → Option Bool) : Nat → Int → Option (List (Int × Int))
  | 0, _k =>
    some []
  | fu1 + 1, k =>
    ix [(-1, 0), (0, -1), (0, 1), (1, 0)] k fun x =>
    gd (R64 (x.1 * wide)) <|
    gd (R64 (p + (x.1 * wide))) <|
    gd (R64 ((p + (x.1 * wide)) + x.2)) <|
    b1 (hear_Town_plot wide plots ((p + (x.1 * wide)) + x.2)) fun ok =>
    if (!ok) = true then
    (hear_desk_next_1_l1 p wide plots down right_ blows closed fu1 (k + 1))
    else
    (if x.1 = 0 then
    (gd ((wide : Int) ≠ 0 ∧ R64 (Int.tdiv ((p + (x.1 * wide)) + x.2) wide)) <|
    gd ((wide : Int) ≠ 0 ∧ R64 (Int.tdiv p wide)) <|
    if (Int.tdiv ((p + (x.1 * wide)) + x.2) wide) ≠ (Int.tdiv p wide) then
    (hear_desk_next_1_l1 p wide plots down right_ blows closed fu1 (k + 1))
    else
    (b1 (closed ((p + (x.1 * wide)) + x.2)) fun ok2 =>
    if ok2 = true then
    (hear_desk_next_1_l1 p wide plots down right_ blows closed fu1 (k + 1))
    else
    (b1 (hear_desk_needs wide plots down right_ blows x.1 x.2 ((p + (x.1 * wide)) + x.2)) fun n =>
    yl ((p + (x.1 * wide)) + x.2, n) <|
    hear_desk_next_1_l1 p wide plots down right_ blows closed fu1 (k + 1))))
    else
    (b1 (closed ((p + (x.1 * wide)) + x.2)) fun ok3 =>
    if ok3 = true then
    (hear_desk_next_1_l1 p wide plots down right_ blows closed fu1 (k + 1))
    else
    (b1 (hear_desk_needs wide plots down right_ blows x.1 x.2 ((p + (x.1 * wide)) + x.2)) fun n2 =>
    yl ((p + (x.1 * wide)) + x.2, n2) <|
    hear_desk_next_1_l1 p wide plots down right_ blows closed fu1 (k + 1))))
def hear_desk_next_1 (p : Int) (wide : Int) (plots : List Int) (down : Int) (right_ : Int) (blows : Bool) (closed : Int → Option Bool) : Option (List (Int × Int)) :=
    gd (R64 0 ∧ R64 4) <|
    hear_desk_next_1_l1 p wide plots down right_ blows closed (Int.toNat (4 - 0)) 0
def hear_desk_next (wide : Int) (plots : List Int) (down : Int) (right_ : Int) (blows : Bool) (p : Int) : Option (List (Int × Int)) :=
    b1 (hear_desk_next_1 p wide plots down right_ blows (fun xx_ : Int => hear_Town_wall wide plots xx_)) fun l =>
    some l
def hear_desk_from_l1 : Nat → Int → (List Int) → Option (List Int)
  | 0, _k, out2 =>
    some out2
  | fu1 + 1, k, out2 =>
    ix out2 k fun _x =>
    bv (out2.set (k : Int).toNat (-1)) fun out3 =>
    hear_desk_from_l1 fu1 (k + 1) out3
def hear_desk_from_l3 (x3 : Int) (rec2 : (List Int) → (List Int) → Option (List Int)) : List (Int × Int) → (List Int) → (List Int) → Option (List Int)
  | [], out7, line3 =>
    rec2 out7 line3
  | x4 :: tl2, out7, line3 =>
    b1 (ix out7 x4.1 fun x5 =>
    if x5 = (-1) then
    (some true)
    else
    (ix out7 x3 fun x6 =>
    gd (R64 (x6 + x4.2)) <|
    some (decide ((x6 + x4.2) < x5)))) fun k2 =>
    if k2 = true then
    (ix out7 x3 fun x7 =>
    gd (R64 (x7 + x4.2)) <|
    ix out7 x4.1 fun _x8 =>
    bv (out7.set (x4.1 : Int).toNat (x7 + x4.2)) fun l2 =>
    ap line3 [x4.1] fun line4 =>
    hear_desk_from_l3 x3 rec2 tl2 l2 line4)
    else
    (hear_desk_from_l3 x3 rec2 tl2 out7 line3)
def hear_desk_from_l2 (wide : Int) (plots : List Int) (down : Int) (right_ : Int) (blows : Bool) : Nat → (List Int) → (List Int) → Option (List Int)
  | 0, _, _ => none
  | fu2 + 1, out6, line =>
    if 0 < (line.length : Int) then
    (ix line 0 fun x3 =>
    gd ((0 ≤ (1 : Int) ∧ (1 : Int) ≤ (line.length : Int)) ∧ (line.length : Int) ≤ line.length) <|
    bv (sl line 1 (line.length : Int)) fun line2 =>
    b1 (hear_desk_next wide plots down right_ blows x3) fun y =>
    hear_desk_from_l3 x3 (hear_desk_from_l2 wide plots down right_ blows fu2) y out6 line2)
    else
    (some out6)
def hear_desk_from (wide : Int) (plots : List Int) (down : Int) (right_ : Int) (blows : Bool) (stand : Int) : Option (List Int) :=
    gd (0 ≤ (plots.length : Int) ∧ (plots.length : Int) ≤ 1048576) <|
    bv (List.replicate ((plots.length : Int) : Int).toNat 0 : List Int) fun l =>
    b1 (gd (R64 0 ∧ R64 (l.length : Int)) <|
    hear_desk_from_l1 (Int.toNat ((l.length : Int) - 0)) 0 l) fun out =>
    ix out stand fun _x2 =>
    bv (out.set (stand : Int).toNat 0) fun out4 =>
    b1 (hear_desk_from_l2 wide plots down right_ blows FU out4 [stand]) fun out5 =>
    some out5
def hear_Needs (wide : Int) (plots : List Int) (wind : Int) (stand : Int) : Option ((List Int) × Int) :=
    b2 (hear_standing wide plots wind stand) fun d n =>
    if n ≠ 0 then
    (some ([], n))
    else
    (b5 d fun wide2 plots2 down right_ blows =>
    b1 (hear_desk_from wide2 plots2 down right_ blows stand) fun l =>
    some (l, 0))
def hear_Houses_l1 (plots : List Int) (voice : Int) : List Int → Int → (List Int) → Option (List Int)
  | [], _k, out2 =>
    some out2
  | x :: tl2, k, out2 =>
    b1 (ix plots k fun x2 =>
    if x2 = 1 then
    (b1 (hear_in x 0 voice) fun ok =>
    some ok)
    else
    (some false)) fun k2 =>
    if k2 = true then
    (ap out2 [k] fun out3 =>
    hear_Houses_l1 plots voice tl2 (k + 1) out3)
    else
    (hear_Houses_l1 plots voice tl2 (k + 1) out2)
def hear_Houses (wide : Int) (plots : List Int) (wind : Int) (voice : Int) (stand : Int) : Option ((List Int) × Int) :=
    b1 (hear_Check wide plots) fun n =>
    if n ≠ 0 then
    (some ([], n))
    else
    (b1 (hear_CheckAir wind voice) fun n2 =>
    if n2 ≠ 0 then
    (some ([], n2))
    else
    (b2 (hear_Needs wide plots wind stand) fun l n3 =>
    if n3 ≠ 0 then
    (some ([], n3))
    else
    (b1 (hear_Houses_l1 plots voice l 0 []) fun out =>
    some (out, 0))))
def hear_Need (wide : Int) (plots : List Int) (wind : Int) (stand : Int) (plot : Int) : Option (Int × Int) :=
    b2 (hear_Needs wide plots wind stand) fun l n =>
    if n ≠ 0 then
    (some (0, n))
    else
    (b1 (hear_Town_plot wide plots plot) fun ok =>
    if (!ok) = true then
    (some (0, 1))
    else
    (ix l plot fun x =>
    if x = (-1) then
    (some (0, 6))
    else
    (some (x, 0))))
def hear_Winds_l3 (wide : Int) (plots : List Int) (voice : Int) (stand : Int) (house : Int) : Nat → (List Int) → Int → Option (List Int)
  | 0, _, _ => none
  | fu3 + 1, out2, w =>
    if w ≤ 4 then
    (b2 (hear_Need wide plots w stand house) fun n5 n6 =>
    b1 (if n6 = 0 then
    (some (decide (n5 ≤ voice)))
    else
    (some false)) fun k2 =>
    if k2 = true then
    (ap out2 [w] fun out3 =>
    gd (R64 (w + 1)) <|
    hear_Winds_l3 wide plots voice stand house fu3 out3 (w + 1))
    else
    (gd (R64 (w + 1)) <|
    hear_Winds_l3 wide plots voice stand house fu3 out2 (w + 1)))
    else
    (some out2)
def hear_Winds_j1 (wide : Int) (plots : List Int) (voice : Int) (stand : Int) (house : Int) : Option ((List Int) × Int) :=
    b1 (hear_Winds_l3 wide plots voice stand house FU [] 0) fun out =>
    some (out, 0)
def hear_Winds_l2 (wide : Int) (plots : List Int) (voice : Int) (stand : Int) (house : Int) (n3 : Int) (n4 : Int) : Nat → Int → Option ((List Int) × Int)
  | 0, _k =>
    hear_Winds_j1 wide plots voice stand house
  | fu2 + 1, k =>
    ix [n3, n4] k fun x =>
    if x ≠ 0 then
    (some ([], x))
    else
    (hear_Winds_l2 wide plots voice stand house n3 n4 fu2 (k + 1))
def hear_Winds (wide : Int) (plots : List Int) (voice : Int) (stand : Int) (house : Int) : Option ((List Int) × Int) :=
    b1 (hear_Check wide plots) fun n =>
    if n ≠ 0 then
    (some ([], n))
    else
    (b1 (hear_CheckAir 0 voice) fun n2 =>
    if n2 ≠ 0 then
    (some ([], n2))
    else
    (b1 (hear_Town_is wide plots stand 0) fun n3 =>
    b1 (hear_Town_is wide plots house 1) fun n4 =>
    gd (R64 0 ∧ R64 2) <|
    hear_Winds_l2 wide plots voice stand house n3 n4 (Int.toNat (2 - 0)) 0))
def slices_IndexFunc_hear_Dir_hear_Dir_j1 : Option Int :=
    some (-1)
def slices_IndexFunc_hear_Dir_hear_Dir_l2 (f : Int → Option Bool) : List Int → Int → Option Int
  | [], _k =>
    slices_IndexFunc_hear_Dir_hear_Dir_j1
  | x :: tl2, k =>
    b1 (f x) fun ok =>
    if ok = true then
    (some k)
    else
    (slices_IndexFunc_hear_Dir_hear_Dir_l2 f tl2 (k + 1))
def slices_IndexFunc_hear_Dir_hear_Dir (s_ : List Int) (f : Int → Option Bool) : Option Int :=
    slices_IndexFunc_hear_Dir_hear_Dir_l2 f s_ 0
def slices_DeleteFunc_hear_Dir_hear_Dir_l1 (del : Int → Option Bool) : Nat → (List Int) → Int → Int → Option ((List Int) × Int)
  | 0, _, _, _ => none
  | fu1 + 1, s_3, i2, j =>
    if j < (s_3.length : Int) then
    (ix s_3 j fun x =>
    b1 (del x) fun ok =>
    if (!ok) = true then
    (ix s_3 i2 fun _x2 =>
    bv (s_3.set (i2 : Int).toNat x) fun s_4 =>
    gd (R64 (i2 + 1)) <|
    gd (R64 (j + 1)) <|
    slices_DeleteFunc_hear_Dir_hear_Dir_l1 del fu1 s_4 (i2 + 1) (j + 1))
    else
    (gd (R64 (j + 1)) <|
    slices_DeleteFunc_hear_Dir_hear_Dir_l1 del fu1 s_3 i2 (j + 1)))
    else
    (some (s_3, i2))
def slices_DeleteFunc_hear_Dir_hear_Dir (s_ : List Int) (del : Int → Option Bool) : Option (List Int) :=
    b1 (slices_IndexFunc_hear_Dir_hear_Dir s_ del) fun n =>
    if n = (-1) then
    (some s_)
    else
    (b2 (gd (R64 (n + 1)) <|
    slices_DeleteFunc_hear_Dir_hear_Dir_l1 del FU s_ n (n + 1)) fun s_2 i =>
    gd (0 ≤ i ∧ i ≤ (s_2.length : Int)) <|
    bv (s_2.take (Int.toNat i) ++ List.replicate (s_2.length - Int.toNat i) 0 : List Int) fun s_5 =>
    gd ((0 ≤ (0 : Int) ∧ (0 : Int) ≤ i) ∧ i ≤ s_5.length) <|
    bv (sl s_5 0 i) fun s_6 =>
    some s_6)
def oyezlaw07_BookBlown_1 (w : Int) : Option Bool :=
    some (decide (w = 0))
def oyezlaw07_BookBlown_l1 : List Int → Int → (List Int) → (List Int) → Option ((List Int) × (List Int))
  | [], _k, streets2, houses2 =>
    some (streets2, houses2)
  | x :: tl2, k, streets2, houses2 =>
    b1 (b1 (if x = 0 then
    (some (decide ((streets2.length : Int) < 4)))
    else
    (some false)) fun k2 =>
    if k2 = true then
    (ap streets2 [k] fun streets4 =>
    some streets4)
    else
    (some streets2)) fun streets3 =>
    b1 (if x = 1 then
    (some (decide ((houses2.length : Int) < 6)))
    else
    (some false)) fun k3 =>
    if k3 = true then
    (ap houses2 [k] fun houses3 =>
    oyezlaw07_BookBlown_l1 tl2 (k + 1) streets3 houses3)
    else
    (oyezlaw07_BookBlown_l1 tl2 (k + 1) streets3 houses2)
def oyezlaw07_BookBlown_j7 (k5 : Int) (rec6 : Int → (List (List Int)) → Option Bool) (winds3 : List (List Int)) : Option Bool :=
    rec6 (k5 + 1) winds3
def oyezlaw07_BookBlown_l8 (k5 : Int) (l3 : List Int) (rec6 : Int → (List (List Int)) → Option Bool) : List Int → Int → (List (List Int)) → Option Bool
  | [], _k6, winds4 =>
    oyezlaw07_BookBlown_j7 k5 rec6 winds4
  | x4 :: tl6, k6, winds4 =>
    b1 (slices_Contains_int_int l3 x4) fun ok2 =>
    if ok2 = true then
    (gd (R64 (2 * k5)) <|
    gd (R64 (2 * k5)) <|
    ix winds4 (2 * k5) fun x5 =>
    ap x5 [k6] fun l4 =>
    bv (winds4.set (2 * k5 : Int).toNat l4) fun winds5 =>
    oyezlaw07_BookBlown_l8 k5 l3 rec6 tl6 (k6 + 1) winds5)
    else
    (oyezlaw07_BookBlown_l8 k5 l3 rec6 tl6 (k6 + 1) winds4)
def oyezlaw07_BookBlown_l10 (w : Int) : List Int → (List (List Int)) → Option (List (List Int))
  | [], winds9 =>
    some winds9
  | x7 :: tl8, winds9 =>
    gd (R64 (w + 1)) <|
    ix winds9 (Int.tmod (w + 1) 8) fun x8 =>
    gd (Int.tmod (w + 1) 8 ≠ w - 1) <|
    b1 (slices_Contains_int_int x8 x7) fun ok3 =>
    if ok3 = true then
    (ix winds9 w fun x9 =>
    gd (w ≠ w - 1) <|
    ap x9 [x7] fun l5 =>
    bv (winds9.set (w : Int).toNat l5) fun winds10 =>
    oyezlaw07_BookBlown_l10 w tl8 winds10)
    else
    (oyezlaw07_BookBlown_l10 w tl8 winds9)
def oyezlaw07_BookBlown_l9 : Nat → (List (List Int)) → Int → Option (List (List Int))
  | 0, _, _ => none
  | fu9 + 1, winds7, w =>
    if w < 8 then
    (b1 (gd (R64 (w - 1)) <|
    ix winds7 (w - 1) fun x6 =>
    oyezlaw07_BookBlown_l10 w x6 winds7) fun winds8 =>
    gd (R64 (w + 2)) <|
    oyezlaw07_BookBlown_l9 fu9 winds8 (w + 2))
    else
    (some winds7)
def oyezlaw07_BookBlown_j4 (rec3 : (List (List (List Int))) → Option Bool) (b_hears3 : List (List (List Int))) : Option Bool :=
    rec3 b_hears3
def oyezlaw07_BookBlown_j5 (b_hears2 : List (List (List Int))) (rec3 : (List (List (List Int))) → Option Bool) (winds : List (List Int)) : Option Bool :=
    b1 (oyezlaw07_BookBlown_l9 FU winds 1) fun winds6 =>
    ap b_hears2 [winds6] fun b =>
    oyezlaw07_BookBlown_j4 rec3 b
def oyezlaw07_BookBlown_l6 (n : Int) (l : List Int) (n3 : Int) (houses : List Int) (b_hears2 : List (List (List Int))) (x2 : Int) (rec3 : (List (List (List Int))) → Option Bool) : Nat → Int → (List (List Int)) → Option Bool
  | 0, _k5, winds2 =>
    oyezlaw07_BookBlown_j5 b_hears2 rec3 winds2
  | fu6 + 1, k5, winds2 =>
    ix [1, 2, 3, 4] k5 fun x3 =>
    b2 (hear_Houses n l x3 n3 x2) fun l3 n4 =>
    if n4 ≠ 0 then
    (some false)
    else
    (oyezlaw07_BookBlown_l8 k5 l3 (oyezlaw07_BookBlown_l6 n l n3 houses b_hears2 x2 rec3 fu6) houses 0 winds2)
def oyezlaw07_BookBlown_l11 (at_5 : Int) (turn5 : Int) : Nat → (List Int) → Option (Int × Int × (List Int))
  | 0, b_readings2 =>
    some (at_5, turn5, b_readings2)
  | fu11 + 1, b_readings2 =>
    ap b_readings2 [-1] fun b_2 =>
    oyezlaw07_BookBlown_l11 at_5 turn5 fu11 b_2
def oyezlaw07_BookBlown_l12 (metal2 : List Int) (streets : List Int) (b_readings : List Int) : Nat → Int → Int → (List (Int × Int × Int)) → Option (List (Int × Int × Int))
  | 0, _q_at2, _q_turn2, b_cries2 =>
    some b_cries2
  | fu12 + 1, q_at2, q_turn2, b_cries2 =>
    gd (R64 ((b_readings.length : Int) - 1)) <|
    gd (R64 ((streets.length : Int) - 1)) <|
    b3 (oyezkit_Bell_Stroke metal2 q_at2 q_turn2 ((b_readings.length : Int) - 1)) fun n7 at_7 turn7 =>
    b3 (oyezkit_Bell_Stroke metal2 at_7 turn7 ((streets.length : Int) - 1)) fun n8 at_8 turn8 =>
    ap b_cries2 [(n7, n8, 0)] fun l6 =>
    oyezlaw07_BookBlown_l12 metal2 streets b_readings fu12 at_8 turn8 l6
def oyezlaw07_BookBlown_j15 (k11 : Int) (rec14 : Int → Option Bool) : Option Bool :=
    rec14 (k11 + 1)
def oyezlaw07_BookBlown_j16 (l7 : List (List Int)) (k11 : Int) (rec14 : Int → Option Bool) (all_ : Bool) (some_ : Bool) : Option Bool :=
    b1 (if all_ = true then
    (ix l7 k11 fun x15 =>
    ix x15 0 fun x16 =>
    if x16 ≠ 1 then
    (some true)
    else
    (some (decide ((!some_) ≠ (decide (x16 = 2))))))
    else
    (ix l7 k11 fun x17 =>
    ix x17 0 fun x18 =>
    some (decide ((!some_) ≠ (decide (x18 = 2)))))) fun k14 =>
    if k14 = true then
    (some false)
    else
    oyezlaw07_BookBlown_j15 k11 rec14
def oyezlaw07_BookBlown_l17 (n : Int) (l : List Int) (n3 : Int) (streets : List Int) (l7 : List (List Int)) (k11 : Int) (x10 : Int) (rec14 : Int → Option Bool) : List (Int × Int × Int) → Bool → Bool → Option Bool
  | [], all_2, some_2 =>
    oyezlaw07_BookBlown_j16 l7 k11 rec14 all_2 some_2
  | x13 :: tl12, all_2, some_2 =>
    ix streets x13.2.1 fun x14 =>
    b2 (hear_Winds n l n3 x14 x10) fun l8 n10 =>
    if n10 ≠ 0 then
    (some false)
    else
    (b1 (slices_DeleteFunc_hear_Dir_hear_Dir l8 (fun xx_ : Int => oyezlaw07_BookBlown_1 xx_)) fun l9 =>
    if all_2 = true then
    (if some_2 = true then
    (oyezlaw07_BookBlown_l17 n l n3 streets l7 k11 x10 rec14 tl12 true true)
    else
    (oyezlaw07_BookBlown_l17 n l n3 streets l7 k11 x10 rec14 tl12 true (decide (0 < (l9.length : Int)))))
    else
    (if some_2 = true then
    (oyezlaw07_BookBlown_l17 n l n3 streets l7 k11 x10 rec14 tl12 (decide ((l9.length : Int) = 4)) true)
    else
    (oyezlaw07_BookBlown_l17 n l n3 streets l7 k11 x10 rec14 tl12 (decide ((l9.length : Int) = 4)) (decide (0 < (l9.length : Int))))))
def oyezlaw07_BookBlown_j13 : Option Bool :=
    b1 (oyezlaw07_awake) fun ok4 =>
    some ok4
def oyezlaw07_BookBlown_l14 (n : Int) (l : List Int) (n3 : Int) (streets : List Int) (b_cries : List (Int × Int × Int)) (l7 : List (List Int)) : List Int → Int → Option Bool
  | [], _k11 =>
    oyezlaw07_BookBlown_j13
  | x10 :: tl10, k11 =>
    b1 (ix l7 k11 fun x11 =>
    if (x11.length : Int) ≠ 2 then
    (some true)
    else
    (ix x11 1 fun x12 =>
    some (decide (x12 ≠ 2)))) fun k12 =>
    if k12 = true then
    (some false)
    else
    (oyezlaw07_BookBlown_l17 n l n3 streets l7 k11 x10 (oyezlaw07_BookBlown_l14 n l n3 streets b_cries l7 tl10) b_cries false false)
def oyezlaw07_BookBlown_j2 (metal2 : List Int) (at_2 : Int) (turn2 : Int) (n : Int) (l : List Int) (n3 : Int) (streets : List Int) (houses : List Int) (b_hears : List (List (List Int))) : Option Bool :=
    b3 (b3 (oyezkit_Bell_Strike metal2 at_2 turn2 1 4) fun n5 at_5 turn5 =>
    gd (R64 0 ∧ R64 n5) <|
    oyezlaw07_BookBlown_l11 at_5 turn5 (Int.toNat (n5 - 0)) []) fun q_at q_turn b_readings =>
    b1 (b3 (oyezkit_Bell_Strike metal2 q_at q_turn 1 3) fun n6 at_6 turn6 =>
    gd (R64 0 ∧ R64 n6) <|
    oyezlaw07_BookBlown_l12 metal2 streets b_readings (Int.toNat (n6 - 0)) at_6 turn6 []) fun b_cries =>
    b2 (book_Verdicts (houses.length : Int) 2 b_hears b_readings b_cries) fun l7 n9 =>
    b1 (if n9 ≠ 0 then
    (some true)
    else
    (some (decide ((l7.length : Int) ≠ (houses.length : Int))))) fun k10 =>
    if k10 = true then
    (some false)
    else
    (oyezlaw07_BookBlown_l14 n l n3 streets b_cries l7 houses 0)
def oyezlaw07_BookBlown_l3 (metal2 : List Int) (at_2 : Int) (turn2 : Int) (n : Int) (l : List Int) (n3 : Int) (streets : List Int) (houses : List Int) : List Int → (List (List (List Int))) → Option Bool
  | [], b_hears2 =>
    oyezlaw07_BookBlown_j2 metal2 at_2 turn2 n l n3 streets houses b_hears2
  | x2 :: tl4, b_hears2 =>
    gd (0 ≤ (8 : Int) ∧ (8 : Int) ≤ 1048576) <|
    bv (List.replicate (8 : Int).toNat [] : List (List Int)) fun l2 =>
    gd (R64 0 ∧ R64 4) <|
    oyezlaw07_BookBlown_l6 n l n3 houses b_hears2 x2 (oyezlaw07_BookBlown_l3 metal2 at_2 turn2 n l n3 streets houses tl4) (Int.toNat (4 - 0)) 0 l2
def oyezlaw07_BookBlown (numbers : List Int) (cries : List Int) : Option Bool :=
    b3 (oyezkit_Hang numbers) fun metal at_ turn =>
    b3 (oyezkit_Hang cries) fun metal2 at_2 turn2 =>
    b4 (oyezlaw01_Made metal at_ turn 12) fun n l at_3 turn3 =>
    b4 (oyezlaw01_Aired metal at_3 turn3) fun _n2 n3 _at_4 _turn4 =>
    b2 (oyezlaw07_BookBlown_l1 l 0 [] []) fun streets houses =>
    if (houses.length : Int) = 0 then
    (b1 (oyezlaw07_awake) fun ok =>
    some ok)
    else
    (oyezlaw07_BookBlown_l3 metal2 at_2 turn2 n l n3 streets houses streets [])
end Go.Proofs.YtodhcoakjlmcdaaGreat
