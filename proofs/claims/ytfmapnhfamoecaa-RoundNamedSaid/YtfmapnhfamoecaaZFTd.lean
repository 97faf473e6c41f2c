/- Plain functions that mirror the code, printed by a program of mine. -/
import Derived.Test.YtfmapnhfamoecaaZFPl
namespace Go.Proofs.Ytfmapnhfamoecaa
open Go.PL
def strt_0 : List Int := [0, 1, 2, 2, 3, 3, 3, 3, 4, 4, 4, 4, 4, 4, 4, 4, 5, 5, 5, 5, 5, 5, 5, 5, 5, 5, 5, 5, 5, 5, 5, 5, 6, 6, 6, 6, 6, 6, 6, 6, 6, 6, 6, 6, 6, 6, 6, 6, 6, 6, 6, 6, 6, 6, 6, 6, 6, 6, 6, 6, 6, 6, 6, 6, 7, 7, 7, 7, 7, 7, 7, 7, 7, 7, 7, 7, 7, 7, 7, 7, 7, 7, 7, 7, 7, 7, 7, 7, 7, 7, 7, 7, 7, 7, 7, 7, 7, 7, 7, 7, 7, 7, 7, 7, 7, 7, 7, 7, 7, 7, 7, 7, 7, 7, 7, 7, 7, 7, 7, 7, 7, 7, 7, 7, 7, 7, 7, 7, 8, 8, 8, 8, 8, 8, 8, 8, 8, 8, 8, 8, 8, 8, 8, 8, 8, 8, 8, 8, 8, 8, 8, 8, 8, 8, 8, 8, 8, 8, 8, 8, 8, 8, 8, 8, 8, 8, 8, 8, 8, 8, 8, 8, 8, 8, 8, 8, 8, 8, 8, 8, 8, 8, 8, 8, 8, 8, 8, 8, 8, 8, 8, 8, 8, 8, 8, 8, 8, 8, 8, 8, 8, 8, 8, 8, 8, 8, 8, 8, 8, 8, 8, 8, 8, 8, 8, 8, 8, 8, 8, 8, 8, 8, 8, 8, 8, 8, 8, 8, 8, 8, 8, 8, 8, 8, 8, 8, 8, 8, 8, 8, 8, 8, 8, 8, 8, 8, 8, 8, 8, 8, 8, 8, 8, 8, 8, 8]
def oyezkit_Bell_ring (metal : List Int) (at_ : Int) (turn : Int) : Option (Int × Int × Int) :=
  b2 (if at_ = (metal.length : Int) then
  (some (0, (turn + 1) % 4294967296))
  else
  (some (at_, turn))) fun b_at b_turn =>
  bv ((30011 * b_turn) % 4294967296) fun n =>
  b2 (if 0 < (metal.length : Int) then
  (ix metal b_at fun x =>
  bv ((n + ((263 * (x % 4294967296)) % 4294967296)) % 4294967296) fun n3 =>
  gd (R64 (b_at + 1)) <|
  some (n3, b_at + 1))
  else
  (some (n, b_at))) fun n2 b_at2 =>
  gd (R64 (bandK 32 (bxorK 32 n2 (shr n2 7)) 65535)) <|
  some (bandK 32 (bxorK 32 n2 (shr n2 7)) 65535, b_at2, b_turn)
def oyezkit_Bell_Stroke (metal : List Int) (at_ : Int) (turn : Int) (n : Int) : Option (Int × Int × Int) :=
  b3 (oyezkit_Bell_ring metal at_ turn) fun n2 at_2 turn2 =>
  gd (R64 (n + 1)) <|
  gd ((if n + 1 > 1 then n + 1 else 1) ≠ 0) <|
  some (Int.tmod n2 (if n + 1 > 1 then n + 1 else 1), at_2, turn2)
def oyezkit_Bell_Rung_l1 (metal : List Int) : Nat → Int → Int → Int → (List Int) → Option ((List Int) × Int × Int)
  | 0, _k, b_at2, b_turn2, out2 =>
  some (out2, b_at2, b_turn2)
  | fu1 + 1, k, b_at2, b_turn2, out2 =>
  b3 (oyezkit_Bell_Stroke metal b_at2 b_turn2 k) fun n2 at_2 turn2 =>
  ap out2 [k] fun out3 =>
  ix out3 k fun x =>
  ix out3 n2 fun x2 =>
  bv (out3.set (n2 : Int).toNat x) fun l =>
  ix l k fun _x3 =>
  bv (l.set (k : Int).toNat x2) fun l2 =>
  oyezkit_Bell_Rung_l1 metal fu1 (k + 1) at_2 turn2 l2
def oyezkit_Bell_Rung (metal : List Int) (at_ : Int) (turn : Int) (n : Int) : Option ((List Int) × Int × Int) :=
  b3 (gd (R64 0 ∧ R64 (if n > 0 then n else 0)) <|
  oyezkit_Bell_Rung_l1 metal (Int.toNat ((if n > 0 then n else 0) - 0)) 0 at_ turn []) fun out b_at b_turn =>
  some (out, b_at, b_turn)
def oyezkit_Bell_Strike (metal : List Int) (at_ : Int) (turn : Int) (lo : Int) (hi : Int) : Option (Int × Int × Int) :=
  gd (R64 (hi - lo)) <|
  b3 (oyezkit_Bell_Stroke metal at_ turn (hi - lo)) fun n at_2 turn2 =>
  gd (R64 (lo + n)) <|
  some (lo + n, at_2, turn2)
def oyezkit_Bell_Seldom (metal : List Int) (at_ : Int) (turn : Int) (n : Int) : Option (Bool × Int × Int) :=
  gd (R64 (n - 1)) <|
  b3 (oyezkit_Bell_Stroke metal at_ turn (n - 1)) fun n2 at_2 turn2 =>
  some (decide (n2 = 0), at_2, turn2)
def oyezlaw03_Made_l2 (metal : List Int) (k : Int) : Nat → Int → Int → Int → (List (List Int)) → Option (Int × Int × (List (List Int)))
  | 0, _k2, b_at5, b_turn5, t_walks5 =>
  some (b_at5, b_turn5, t_walks5)
  | fu2 + 1, k2, b_at5, b_turn5, t_walks5 =>
  b3 (oyezkit_Bell_Strike metal b_at5 b_turn5 1 6) fun n3 at_4 turn4 =>
  b3 (if k = k2 then
  (some (at_4, turn4, 0))
  else
  (b3 (oyezkit_Bell_Seldom metal at_4 turn4 5) fun ok at_5 turn5 =>
  if ok = true then
  (some (at_5, turn5, -1))
  else
  (some (at_5, turn5, n3)))) fun b_at6 b_turn6 w =>
  ix t_walks5 k fun x =>
  ap x [w] fun l =>
  bv (t_walks5.set (k : Int).toNat l) fun l2 =>
  oyezlaw03_Made_l2 metal k fu2 (k2 + 1) b_at6 b_turn6 l2
def oyezlaw03_Made_l1 (metal : List Int) (n : Int) (n2 : Int) : Nat → Int → Int → Int → (List (List Int)) → (List (List Int)) → Option (Int × Int × (List (List Int)) × (List (List Int)))
  | 0, _k, b_at2, b_turn2, t_walks2, t_hears2 =>
  some (b_at2, b_turn2, t_walks2, t_hears2)
  | fu1 + 1, k, b_at2, b_turn2, t_walks2, t_hears2 =>
  b4 (ap t_walks2 [[]] fun t =>
  b3 (gd (R64 0 ∧ R64 n2) <|
  oyezlaw03_Made_l2 metal k (Int.toNat (n2 - 0)) 0 b_at2 b_turn2 t) fun b_at4 b_turn4 t_walks4 =>
  b3 (oyezkit_Bell_Rung metal b_at4 b_turn4 n) fun l3 at_6 turn6 =>
  b3 (oyezkit_Bell_Stroke metal at_6 turn6 (l3.length : Int)) fun n4 at_7 turn7 =>
  gd ((0 ≤ (0 : Int) ∧ (0 : Int) ≤ n4) ∧ n4 ≤ l3.length) <|
  bv (sl l3 0 n4) fun l4 =>
  ap t_hears2 [l4] fun l5 =>
  some (at_7, turn7, t_walks4, l5)) fun b_at3 b_turn3 t_walks3 t_hears3 =>
  oyezlaw03_Made_l1 metal n n2 fu1 (k + 1) b_at3 b_turn3 t_walks3 t_hears3
def oyezlaw03_Made_l3 (metal : List Int) (n : Int) : Nat → Int → Int → (List ((List Int) × Int × Int)) → Int → Option ((List ((List Int) × Int × Int)) × Int × Int)
  | 0, b_at8, b_turn8, t_notices2, _left_ =>
  some (t_notices2, b_at8, b_turn8)
  | fu3 + 1, b_at8, b_turn8, t_notices2, left_ =>
  b3 (oyezkit_Bell_Rung metal b_at8 b_turn8 n) fun l6 at_10 turn10 =>
  b3 (oyezkit_Bell_Strike metal at_10 turn10 1 (l6.length : Int)) fun n7 at_11 turn11 =>
  gd ((0 ≤ (0 : Int) ∧ (0 : Int) ≤ (if n7 < left_ then n7 else left_)) ∧ (if n7 < left_ then n7 else left_) ≤ l6.length) <|
  bv (sl l6 0 (if n7 < left_ then n7 else left_)) fun l7 =>
  gd (R64 (left_ - (l7.length : Int))) <|
  if 0 < (l7.length : Int) then
  (b3 (oyezkit_Bell_Strike metal at_11 turn11 1 4) fun n8 at_12 turn12 =>
  b3 (oyezkit_Bell_Strike metal at_12 turn12 4 45) fun n9 at_13 turn13 =>
  ap t_notices2 [(l7, n8, n9)] fun l8 =>
  oyezlaw03_Made_l3 metal n fu3 at_13 turn13 l8 (left_ - (l7.length : Int)))
  else
  (oyezlaw03_Made_l3 metal n fu3 at_11 turn11 t_notices2 (left_ - (l7.length : Int)))
def oyezlaw03_Made (metal : List Int) (at_ : Int) (turn : Int) (stands : Int) (houses : Int) (notices : Int) : Option ((List (List Int)) × (List (List Int)) × Int × Int × (List ((List Int) × Int × Int)) × Int × Int) :=
  b3 (oyezkit_Bell_Strike metal at_ turn 1 houses) fun n at_2 turn2 =>
  b3 (oyezkit_Bell_Strike metal at_2 turn2 1 stands) fun n2 at_3 turn3 =>
  b4 (gd (R64 0 ∧ R64 n2) <|
  oyezlaw03_Made_l1 metal n n2 (Int.toNat (n2 - 0)) 0 at_3 turn3 [] []) fun b_at b_turn t_walks t_hears =>
  gd (R64 (n2 - 1)) <|
  b3 (oyezkit_Bell_Stroke metal b_at b_turn (n2 - 1)) fun n5 at_8 turn8 =>
  b3 (b3 (oyezkit_Bell_Stroke metal at_8 turn8 notices) fun n6 at_9 turn9 =>
  gd (R64 0 ∧ R64 n6) <|
  oyezlaw03_Made_l3 metal n (Int.toNat (n6 - 0)) at_9 turn9 [] 9) fun t_notices b_at7 b_turn7 =>
  some (t_walks, t_hears, n, n5, t_notices, b_at7, b_turn7)
def oyezkit_Hang (metal : List Int) : Option ((List Int) × Int × Int) :=
  some (metal, 0, 0)
def round_in (n : Int) (lo : Int) (hi : Int) : Option Bool :=
  if lo ≤ n then
  (some (decide (n ≤ hi)))
  else
  (some false)
def slices_IndexFunc_int_int_j1 : Option Int :=
  some (-1)
def slices_IndexFunc_int_int_l2 (f : (List Int) → Option Bool) : List (List Int) → Int → Option Int
  | [], _k =>
  slices_IndexFunc_int_int_j1
  | x :: tl2, k =>
  b1 (f x) fun ok =>
  if ok = true then
  (some k)
  else
  (slices_IndexFunc_int_int_l2 f tl2 (k + 1))
def slices_IndexFunc_int_int (s_ : List (List Int)) (f : (List Int) → Option Bool) : Option Int :=
  slices_IndexFunc_int_int_l2 f s_ 0
def slices_ContainsFunc_int_int (s_ : List (List Int)) (f : (List Int) → Option Bool) : Option Bool :=
  b1 (slices_IndexFunc_int_int s_ f) fun n =>
  some (decide (0 ≤ n))
def round_every_int_1 (x : List Int) (so : (List Int) → Option Bool) : Option Bool :=
  b1 (so x) fun ok =>
  some (!ok)
def round_every_int (l : List (List Int)) (so : (List Int) → Option Bool) : Option Bool :=
  b1 (slices_ContainsFunc_int_int l (fun xx_ : (List Int) => round_every_int_1 xx_ so)) fun ok =>
  some (!ok)
def round_Beat_counted_1 (l : List Int) (n : Int) : Option Bool :=
  some (decide ((l.length : Int) = n))
def round_Beat_counted (walks : List (List Int)) (hears : List (List Int)) (houses : Int) (_start : Int) (notices : List ((List Int) × Int × Int)) : Option Bool :=
  b1 (round_in (hears.length : Int) 1 5) fun ok =>
  if ok = true then
  (b1 (round_in houses 1 5) fun ok2 =>
  if ok2 = true then
  (if (notices.length : Int) ≤ 3 then
  (if (walks.length : Int) = (hears.length : Int) then
  (b1 (round_every_int walks (fun xx_ : (List Int) => round_Beat_counted_1 xx_ (hears.length : Int))) fun ok3 =>
  some ok3)
  else
  (some false))
  else
  (some false))
  else
  (some false))
  else
  (some false)
def round_Beat_stand (_walks : List (List Int)) (hears : List (List Int)) (_houses : Int) (_start : Int) (_notices : List ((List Int) × Int × Int)) (s_ : Int) : Option Bool :=
  gd (R64 ((hears.length : Int) - 1)) <|
  b1 (round_in s_ 0 ((hears.length : Int) - 1)) fun ok =>
  some ok
def round_Beat_walkable_j3 (k : Int) (rec2 : Int → Option Bool) : Option Bool :=
  rec2 (k + 1)
def round_Beat_walkable_l4 (k : Int) (rec2 : Int → Option Bool) : List Int → Int → Option Bool
  | [], _k2 =>
  round_Beat_walkable_j3 k rec2
  | x2 :: tl4, k2 =>
  b1 (if k = k2 then
  (if x2 ≠ 0 then
  (some true)
  else
  (if k ≠ k2 then
  (if x2 ≠ (-1) then
  (b1 (round_in x2 1 20) fun ok =>
  some (!ok))
  else
  (some false))
  else
  (some false)))
  else
  (if k ≠ k2 then
  (if x2 ≠ (-1) then
  (b1 (round_in x2 1 20) fun ok2 =>
  some (!ok2))
  else
  (some false))
  else
  (some false))) fun k3 =>
  if k3 = true then
  (some false)
  else
  (round_Beat_walkable_l4 k rec2 tl4 (k2 + 1))
def round_Beat_walkable_j1 : Option Bool :=
  some true
def round_Beat_walkable_l2 : List (List Int) → Int → Option Bool
  | [], _k =>
  round_Beat_walkable_j1
  | x :: tl2, k =>
  round_Beat_walkable_l4 k (round_Beat_walkable_l2 tl2) x 0
def round_Beat_walkable (walks : List (List Int)) (_hears : List (List Int)) (_houses : Int) (_start : Int) (_notices : List ((List Int) × Int × Int)) : Option Bool :=
  round_Beat_walkable_l2 walks 0
def slices_Index_int_int_j1 : Option Int :=
  some (-1)
def slices_Index_int_int_l2 (v : Int) : List Int → Int → Option Int
  | [], _k =>
  slices_Index_int_int_j1
  | x :: tl2, k =>
  if v = x then
  (some k)
  else
  (slices_Index_int_int_l2 v tl2 (k + 1))
def slices_Index_int_int (s_ : List Int) (v : Int) : Option Int :=
  slices_Index_int_int_l2 v s_ 0
def slices_Contains_int_int (s_ : List Int) (v : Int) : Option Bool :=
  b1 (slices_Index_int_int s_ v) fun n =>
  some (decide (0 ≤ n))
def round_Beat_listed_j1 : Option Int :=
  some 0
def round_Beat_listed_l2 (houses : Int) (l : List Int) : List Int → Int → Option Int
  | [], _k =>
  round_Beat_listed_j1
  | x :: tl2, k =>
  gd (R64 (houses - 1)) <|
  b1 (round_in x 0 (houses - 1)) fun ok =>
  if (!ok) = true then
  (some 1)
  else
  (gd ((0 ≤ (0 : Int) ∧ (0 : Int) ≤ k) ∧ k ≤ l.length) <|
  bv (sl l 0 k) fun l2 =>
  b1 (slices_Contains_int_int l2 x) fun ok2 =>
  if ok2 = true then
  (some 5)
  else
  (round_Beat_listed_l2 houses l tl2 (k + 1)))
def round_Beat_listed (_walks : List (List Int)) (_hears : List (List Int)) (houses : Int) (_start : Int) (_notices : List ((List Int) × Int × Int)) (l : List Int) : Option Int :=
  round_Beat_listed_l2 houses l l 0
def round_Beat_check (walks : List (List Int)) (hears : List (List Int)) (houses : Int) (start : Int) (notices : List ((List Int) × Int × Int)) (quarter : List Int) (words : Int) (hour : Int) : Option Int :=
  if (quarter.length : Int) = 0 then
  (some 6)
  else
  (b1 (round_Beat_listed walks hears houses start notices quarter) fun n =>
  if n ≠ 0 then
  (some n)
  else
  (b1 (b1 (round_in words 1 5) fun ok =>
  if (!ok) = true then
  (some true)
  else
  (b1 (round_in hour 0 200) fun ok2 =>
  some (!ok2))) fun k =>
  if k = true then
  (some 3)
  else
  (some 0)))
def round_Check_j3 (pairs : Int) : Option Int :=
  if 9 < pairs then
  (some 2)
  else
  (some 0)
def round_Check_l4 (walks : List (List Int)) (hears : List (List Int)) (houses : Int) (start : Int) (notices : List ((List Int) × Int × Int)) : List ((List Int) × Int × Int) → Int → Option Int
  | [], pairs2 =>
  round_Check_j3 pairs2
  | x2 :: tl4, pairs2 =>
  b1 (round_Beat_check walks hears houses start notices x2.1 x2.2.1 x2.2.2) fun n2 =>
  if n2 ≠ 0 then
  (some n2)
  else
  (gd (R64 (pairs2 + (x2.1.length : Int))) <|
  round_Check_l4 walks hears houses start notices tl4 (pairs2 + (x2.1.length : Int)))
def round_Check_j1 (walks : List (List Int)) (hears : List (List Int)) (houses : Int) (start : Int) (notices : List ((List Int) × Int × Int)) : Option Int :=
  round_Check_l4 walks hears houses start notices notices 0
def round_Check_l2 (walks : List (List Int)) (hears : List (List Int)) (houses : Int) (start : Int) (notices : List ((List Int) × Int × Int)) : List (List Int) → Option Int
  | [] =>
  round_Check_j1 walks hears houses start notices
  | x :: tl2 =>
  b1 (round_Beat_listed walks hears houses start notices x) fun n =>
  if n ≠ 0 then
  (some n)
  else
  (round_Check_l2 walks hears houses start notices tl2)
def round_Check (walks : List (List Int)) (hears : List (List Int)) (houses : Int) (start : Int) (notices : List ((List Int) × Int × Int)) : Option Int :=
  b1 (round_Beat_counted walks hears houses start notices) fun ok =>
  if (!ok) = true then
  (some 2)
  else
  (b1 (round_Beat_stand walks hears houses start notices start) fun ok2 =>
  if (!ok2) = true then
  (some 1)
  else
  (b1 (round_Beat_walkable walks hears houses start notices) fun ok3 =>
  if (!ok3) = true then
  (some 3)
  else
  (round_Check_l2 walks hears houses start notices hears)))
def round_soonest_l1 : List Int → Int → Option Int
  | [], out2 =>
  some out2
  | x :: tl2, out2 =>
  b1 (if x ≠ (-1) then
  (if out2 = (-1) then
  (some true)
  else
  (some (decide (x < out2))))
  else
  (some false)) fun k2 =>
  if k2 = true then
  (round_soonest_l1 tl2 x)
  else
  (round_soonest_l1 tl2 out2)
def round_soonest (l : List Int) : Option Int :=
  b1 (round_soonest_l1 l (-1)) fun out =>
  some out
def round_walks_through_l3 (w : List Int) (k : Int) (k2 : Int) : Nat → Int → (List Int) → Option (List Int)
  | 0, _k3, out6 =>
  some out6
  | fu3 + 1, k3, out6 =>
  b1 (gd (0 ≤ k ∧ k < 5) <|
  gd (0 ≤ k3 ∧ k3 < 5) <|
  ix w (k * 5 + k3) fun x =>
  if x ≠ (-1) then
  (gd (0 ≤ k3 ∧ k3 < 5) <|
  gd (0 ≤ k2 ∧ k2 < 5) <|
  ix w (k3 * 5 + k2) fun x2 =>
  some (decide (x2 ≠ (-1))))
  else
  (some false)) fun k4 =>
  if k4 = true then
  (gd (0 ≤ k ∧ k < 5) <|
  gd (0 ≤ k2 ∧ k2 < 5) <|
  ix out6 (k * 5 + k2) fun x3 =>
  gd (0 ≤ k ∧ k < 5) <|
  gd (0 ≤ k3 ∧ k3 < 5) <|
  ix w (k * 5 + k3) fun x4 =>
  gd (0 ≤ k3 ∧ k3 < 5) <|
  gd (0 ≤ k2 ∧ k2 < 5) <|
  ix w (k3 * 5 + k2) fun x5 =>
  gd (R64 (x4 + x5)) <|
  gd (0 ≤ k ∧ k < 5) <|
  b1 (round_soonest [x3, x4 + x5]) fun n =>
  gd (0 ≤ k2 ∧ k2 < 5) <|
  bv (out6.set (k * 5 + k2 : Int).toNat n) fun l =>
  round_walks_through_l3 w k k2 fu3 (k3 + 1) l)
  else
  (round_walks_through_l3 w k k2 fu3 (k3 + 1) out6)
def round_walks_through_l2 (w : List Int) (k : Int) : Nat → Int → (List Int) → Option (List Int)
  | 0, _k2, out4 =>
  some out4
  | fu2 + 1, k2, out4 =>
  b1 (gd (R64 0 ∧ R64 5) <|
  round_walks_through_l3 w k k2 (Int.toNat (5 - 0)) 0 out4) fun out5 =>
  round_walks_through_l2 w k fu2 (k2 + 1) out5
def round_walks_through_l1 (w : List Int) : Nat → Int → (List Int) → Option (List Int)
  | 0, _k, out2 =>
  some out2
  | fu1 + 1, k, out2 =>
  b1 (gd (R64 0 ∧ R64 5) <|
  round_walks_through_l2 w k (Int.toNat (5 - 0)) 0 out2) fun out3 =>
  round_walks_through_l1 w fu1 (k + 1) out3
def round_walks_through (w : List Int) : Option (List Int) :=
  b1 (gd (R64 0 ∧ R64 5) <|
  round_walks_through_l1 w (Int.toNat (5 - 0)) 0 w) fun out =>
  some out
def slices_AppendSeq_int_int_l1 : List Int → (List Int) → Option (List Int)
  | [], s_3 =>
  some s_3
  | x :: tl2, s_3 =>
  ap s_3 [x] fun s_4 =>
  slices_AppendSeq_int_int_l1 tl2 s_4
def slices_AppendSeq_int_int (s_ : List Int) (seq : List Int) : Option (List Int) :=
  b1 (slices_AppendSeq_int_int_l1 seq s_) fun s_2 =>
  some s_2
def slices_Collect_int (seq : List Int) : Option (List Int) :=
  b1 (slices_AppendSeq_int_int [] seq) fun l =>
  some l
def cmp_isNaN_int (x : Int) : Option Bool :=
  some (decide (x ≠ x))
def cmp_Less_int (x : Int) (y : Int) : Option Bool :=
  b1 (cmp_isNaN_int x) fun ok =>
  if ok = true then
  (b1 (cmp_isNaN_int y) fun ok2 =>
  if (!ok2) = true then
  (some true)
  else
  (some (decide (x < y))))
  else
  (some (decide (x < y)))
def slices_insertionSortOrdered_int_l2 (a : Int) : Nat → (List Int) → Int → Option (List Int)
  | 0, _, _ => none
  | fu2 + 1, data3, j =>
  b1 (if a < j then
  (ix data3 j fun x =>
  gd (R64 (j - 1)) <|
  ix data3 (j - 1) fun x2 =>
  b1 (cmp_Less_int x x2) fun ok =>
  some ok)
  else
  (some false)) fun k =>
  if k = true then
  (gd (R64 (j - 1)) <|
  gd (R64 (j - 1)) <|
  ix data3 (j - 1) fun x3 =>
  ix data3 j fun x4 =>
  bv (data3.set (j : Int).toNat x3) fun l =>
  ix l (j - 1) fun _x5 =>
  bv (l.set (j - 1 : Int).toNat x4) fun l2 =>
  gd (R64 (j - 1)) <|
  slices_insertionSortOrdered_int_l2 a fu2 l2 (j - 1))
  else
  (some data3)
def slices_insertionSortOrdered_int_l1 (a : Int) : Nat → Int → (List Int) → Option (List Int)
  | 0, _i, data =>
  some data
  | fu1 + 1, i, data =>
  b1 (slices_insertionSortOrdered_int_l2 a FU data i) fun data2 =>
  slices_insertionSortOrdered_int_l1 a fu1 (i + 1) data2
def slices_insertionSortOrdered_int (s_ : List Int) (a : Int) (b : Int) : Option (List Int) :=
  gd (R64 (a + 1)) <|
  gd (R64 (a + 1) ∧ R64 b) <|
  slices_insertionSortOrdered_int_l1 a (Int.toNat (b - (a + 1))) (a + 1) s_
def math_bits_Len64 (x : Int) : Option Int :=
  b2 (if 4294967296 ≤ x then
  (some (shr x 32, 32))
  else
  (some (x, 0))) fun x2 n =>
  b2 (if 65536 ≤ x2 then
  (gd (R64 (n + 16)) <|
  some (shr x2 16, n + 16))
  else
  (some (x2, n))) fun x3 n2 =>
  b2 (if 256 ≤ x3 then
  (gd (R64 (n2 + 8)) <|
  some (shr x3 8, n2 + 8))
  else
  (some (x3, n2))) fun x4 n3 =>
  ix strt_0 (x4 % 256) fun x5 =>
  gd (R64 x5) <|
  gd (R64 (n3 + x5)) <|
  some (n3 + x5)
def math_bits_Len (x : Int) : Option Int :=
  b1 (math_bits_Len64 x) fun n =>
  some n
def slices_pdqsortOrdered_intB_l1 (s_ : List Int) (a : Int) (b : Int) : Nat → Option (List Int)
  | 0 => none
  | _fu1 + 1 =>
  gd (R64 (b - a)) <|
  gd ((b - a) ≤ 12) <|
  b1 (slices_insertionSortOrdered_int s_ a b) fun s_2 =>
  some s_2
def slices_pdqsortOrdered_intB (_rec_ : (List Int) → Int → Int → Int → Option ((List Int))) (s_ : List Int) (a : Int) (b : Int) (_limit : Int) : Option (List Int) :=
  slices_pdqsortOrdered_intB_l1 s_ a b FU
def slices_pdqsortOrdered_int : Nat → (List Int) → Int → Int → Int → Option (List Int)
  | 0, _, _, _, _ => none
  | fu + 1, s_, a, b, limit =>
  slices_pdqsortOrdered_intB (slices_pdqsortOrdered_int fu) s_ a b limit
def slices_Sort_int_int (s_ : List Int) : Option (List Int) :=
  b1 (math_bits_Len ((s_.length : Int) % 18446744073709551616)) fun n =>
  b1 (slices_pdqsortOrdered_int FU s_ 0 (s_.length : Int) n) fun s_2 =>
  some s_2
def slices_Sorted_int (seq : List Int) : Option (List Int) :=
  b1 (slices_Collect_int seq) fun l =>
  b1 (slices_Sort_int_int l) fun s_ =>
  some s_
def slices_Values_int_int_1_l1 : List Int → Option (List Int)
  | [] =>
  some []
  | x :: tl2 =>
  yl x <|
  slices_Values_int_int_1_l1 tl2
def slices_Values_int_int_1 (s_ : List Int) : Option (List Int) :=
  slices_Values_int_int_1_l1 s_
def slices_Values_int_int (s_ : List Int) : Option (List Int) :=
  b1 (slices_Values_int_int_1 s_) fun l =>
  some l
def round_opened_l2 (walks : List (List Int)) (k : Int) : Nat → Int → (List Int) → Option (List Int)
  | 0, _k2, c_walks4 =>
  some c_walks4
  | fu2 + 1, k2, c_walks4 =>
  gd (0 ≤ k ∧ k < 5) <|
  gd (0 ≤ k2 ∧ k2 < 5) <|
  ix c_walks4 (k * 5 + k2) fun _x =>
  bv (c_walks4.set (k * 5 + k2 : Int).toNat (-1)) fun ws =>
  b1 (if k < (walks.length : Int) then
  (some (decide (k2 < (walks.length : Int))))
  else
  (some false)) fun k3 =>
  if k3 = true then
  (ix walks k fun x2 =>
  ix x2 k2 fun x3 =>
  gd (0 ≤ k ∧ k < 5) <|
  gd (0 ≤ k2 ∧ k2 < 5) <|
  ix ws (k * 5 + k2) fun _x4 =>
  bv (ws.set (k * 5 + k2 : Int).toNat x3) fun ws2 =>
  round_opened_l2 walks k fu2 (k2 + 1) ws2)
  else
  (round_opened_l2 walks k fu2 (k2 + 1) ws)
def round_opened_l1 (walks : List (List Int)) : Nat → Int → (List Int) → Option (List Int)
  | 0, _k, c_walks2 =>
  some c_walks2
  | fu1 + 1, k, c_walks2 =>
  b1 (gd (R64 0 ∧ R64 5) <|
  round_opened_l2 walks k (Int.toNat (5 - 0)) 0 c_walks2) fun c_walks3 =>
  round_opened_l1 walks fu1 (k + 1) c_walks3
def round_opened_l3 : Nat → (List Int) → (List Int) → Option (List Int)
  | 0, _, _ => none
  | fu3 + 1, c_walks6, next_ =>
  gd (∀ x_ ∈ next_, R64 x_) <|
  gd (∀ x_ ∈ c_walks6, R64 x_) <|
  if next_ ≠ c_walks6 then
  (b1 (round_walks_through next_) fun a2 =>
  round_opened_l3 fu3 next_ a2)
  else
  (some c_walks6)
def round_opened_l6 (k4 : Int) (c_pairs4 : List (Int × Int)) (x6 : Int) : List (List Int) → Int → (List Int) → Option (List Int)
  | [], _k6, c_hit7 =>
  some c_hit7
  | x7 :: tl6, k6, c_hit7 =>
  b1 (slices_Contains_int_int x7 x6) fun ok =>
  if ok = true then
  (gd (0 ≤ k6 ∧ k6 < 5) <|
  gd (0 ≤ k4 ∧ k4 < 3) <|
  ix c_hit7 (k6 * 3 + k4) fun x8 =>
  gd ((0 ≤ ((c_pairs4.length : Int) : Int) ∧ ((c_pairs4.length : Int) : Int) < 64) ∧ R64 (shl 1 (c_pairs4.length : Int))) <|
  gd (0 ≤ k6 ∧ k6 < 5) <|
  gd (0 ≤ k4 ∧ k4 < 3) <|
  bv (c_hit7.set (k6 * 3 + k4 : Int).toNat (bor x8 (shl 1 (c_pairs4.length : Int)))) fun ws3 =>
  round_opened_l6 k4 c_pairs4 x6 tl6 (k6 + 1) ws3)
  else
  (round_opened_l6 k4 c_pairs4 x6 tl6 (k6 + 1) c_hit7)
def round_opened_l5 (hears : List (List Int)) (k4 : Int) : List Int → (List (Int × Int)) → (List Int) → Option ((List (Int × Int)) × (List Int))
  | [], c_pairs4, c_hit4 =>
  some (c_pairs4, c_hit4)
  | x6 :: tl4, c_pairs4, c_hit4 =>
  b2 (b1 (round_opened_l6 k4 c_pairs4 x6 hears 0 c_hit4) fun c_hit6 =>
  ap c_pairs4 [(k4, x6)] fun c =>
  some (c, c_hit6)) fun c_pairs5 c_hit5 =>
  round_opened_l5 hears k4 tl4 c_pairs5 c_hit5
def round_opened_l4 (hears : List (List Int)) : List ((List Int) × Int × Int) → Int → (List (Int × Int)) → (List Int) → Option ((List (Int × Int)) × (List Int))
  | [], _k4, c_pairs2, c_hit2 =>
  some (c_pairs2, c_hit2)
  | x5 :: tl2, k4, c_pairs2, c_hit2 =>
  b2 (b1 (slices_Values_int_int x5.1) fun y =>
  b1 (slices_Sorted_int y) fun l =>
  round_opened_l5 hears k4 l c_pairs2 c_hit2) fun c_pairs3 c_hit3 =>
  round_opened_l4 hears tl2 (k4 + 1) c_pairs3 c_hit3
def round_opened (walks : List (List Int)) (hears : List (List Int)) (houses : Int) (start : Int) (notices : List ((List Int) × Int × Int)) : Option ((Option ((List (List Int)) × (List (List Int)) × Int × Int × (List ((List Int) × Int × Int)) × (List Int) × (List (Int × Int)) × (List Int))) × Int) :=
  b1 (round_Check walks hears houses start notices) fun n =>
  if n ≠ 0 then
  (some (none, n))
  else
  (b1 (gd (R64 0 ∧ R64 5) <|
  round_opened_l1 walks (Int.toNat (5 - 0)) 0 (List.replicate 25 0)) fun c_walks =>
  b1 (b1 (round_walks_through c_walks) fun a =>
  round_opened_l3 FU c_walks a) fun c_walks5 =>
  b2 (round_opened_l4 hears notices 0 [] (List.replicate 15 0)) fun c_pairs c_hit =>
  some (some (walks, hears, houses, start, notices, c_walks5, c_pairs, c_hit), 0))
def round_crier_served_1_j2 (k : Int) (rec1 : Int → Option (List ((Int × Int) × Int))) : Option (List ((Int × Int) × Int)) :=
  rec1 (k + 1)
def round_crier_served_1_l3 (hit : List Int) (set_ : Int) (k : Int) (rec1 : Int → Option (List ((Int × Int) × Int))) : List ((List Int) × Int × Int) → Int → Option (List ((Int × Int) × Int))
  | [], _k2 =>
  round_crier_served_1_j2 k rec1
  | _x2 :: tl4, k2 =>
  gd (0 ≤ k ∧ k < 5) <|
  gd (0 ≤ k2 ∧ k2 < 3) <|
  ix hit (k * 3 + k2) fun x3 =>
  if (bandn set_ x3) ≠ set_ then
  (yl ((k, k2), bandn set_ x3) <|
  round_crier_served_1_l3 hit set_ k rec1 tl4 (k2 + 1))
  else
  (round_crier_served_1_l3 hit set_ k rec1 tl4 (k2 + 1))
def round_crier_served_1_l1 (notices : List ((List Int) × Int × Int)) (hit : List Int) (set_ : Int) : List (List Int) → Int → Option (List ((Int × Int) × Int))
  | [], _k =>
  some []
  | _x :: tl2, k =>
  round_crier_served_1_l3 hit set_ k (round_crier_served_1_l1 notices hit set_ tl2) notices 0
def round_crier_served_1 (_walks : List (List Int)) (hears : List (List Int)) (_houses : Int) (_start : Int) (notices : List ((List Int) × Int × Int)) (_walks2 : List Int) (_pairs : List (Int × Int)) (hit : List Int) (set_ : Int) : Option (List ((Int × Int) × Int)) :=
  round_crier_served_1_l1 notices hit set_ hears 0
def round_crier_served (walks : List (List Int)) (hears : List (List Int)) (houses : Int) (start : Int) (notices : List ((List Int) × Int × Int)) (walks2 : List Int) (pairs : List (Int × Int)) (hit : List Int) (set_ : Int) : Option (List ((Int × Int) × Int)) :=
  b1 (round_crier_served_1 walks hears houses start notices walks2 pairs hit set_) fun l =>
  some l
def slices_Reverse_round_Cry_round_Cry_l1 : Nat → (List (Int × Int)) → Int → Int → Option (List (Int × Int))
  | 0, _, _, _ => none
  | fu1 + 1, s_2, i, j =>
  if i < j then
  (ix s_2 j fun x =>
  ix s_2 i fun x2 =>
  bv (s_2.set (i : Int).toNat (x.1, x.2)) fun l =>
  ix l j fun _x3 =>
  bv (l.set (j : Int).toNat (x2.1, x2.2)) fun l2 =>
  gd (R64 (i + 1)) <|
  gd (R64 (j - 1)) <|
  slices_Reverse_round_Cry_round_Cry_l1 fu1 l2 (i + 1) (j - 1))
  else
  (some s_2)
def slices_Reverse_round_Cry_round_Cry (s_ : List (Int × Int)) : Option (List (Int × Int)) :=
  gd (R64 ((s_.length : Int) - 1)) <|
  slices_Reverse_round_Cry_round_Cry_l1 FU s_ 0 ((s_.length : Int) - 1)
def round_crier_serve_l3 (notices : List ((List Int) × Int × Int)) (walks2 : List Int) (ok : (Int × Int) → Option Bool) (left_ : Int) (met5 : List ((Int × Int) × (Int × Int × Int × Int × Int))) (k : Int) : List ((Int × Int) × Int) → (List ((Int × Int) × (Int × Int × Int × Int × Int))) → Option (List ((Int × Int) × (Int × Int × Int × Int × Int)))
  | [], met7 =>
  some met7
  | x2 :: tl4, met7 =>
  gd (0 ≤ k ∧ k < 5) <|
  gd (0 ≤ x2.1.1 ∧ x2.1.1 < 5) <|
  ix walks2 (k * 5 + x2.1.1) fun x3 =>
  if x3 = (-1) then
  (round_crier_serve_l3 notices walks2 ok left_ met5 k tl4 met7)
  else
  (gd (R64 ((((mget met5 (k, left_)).getD (0, 0, 0, 0, 0)).1) + x3)) <|
  ix notices x2.1.2 fun x4 =>
  gd (R64 (((((mget met5 (k, left_)).getD (0, 0, 0, 0, 0)).1) + x3) + x4.2.1)) <|
  bv (((((mget met5 (k, left_)).getD (0, 0, 0, 0, 0)).1) + x3) + x4.2.1) fun end_ =>
  b1 (b1 (ok (x2.1.2, end_)) fun ok2 =>
  if ok2 = true then
  (if (!((mget met7 (x2.1.1, x2.2)).isSome)) = true then
  (some true)
  else
  (some (decide (end_ < (((mget met7 (x2.1.1, x2.2)).getD (0, 0, 0, 0, 0)).1)))))
  else
  (some false)) fun k2 =>
  if k2 = true then
  (bv (mput met7 (x2.1.1, x2.2) (end_, x2.1.1, x2.1.2, k, left_)) fun met8 =>
  round_crier_serve_l3 notices walks2 ok left_ met5 k tl4 met8)
  else
  (round_crier_serve_l3 notices walks2 ok left_ met5 k tl4 met7))
def round_crier_serve_l2 (walks : List (List Int)) (hears : List (List Int)) (houses : Int) (start : Int) (notices : List ((List Int) × Int × Int)) (walks2 : List Int) (pairs : List (Int × Int)) (hit : List Int) (ok : (Int × Int) → Option Bool) (left_ : Int) : List (List Int) → Int → (List ((Int × Int) × (Int × Int × Int × Int × Int))) → Option (List ((Int × Int) × (Int × Int × Int × Int × Int)))
  | [], _k, met5 =>
  some met5
  | _x :: tl2, k, met5 =>
  b1 (if (!((mget met5 (k, left_)).isSome)) = true then
  (some met5)
  else
  (b1 (round_crier_served walks hears houses start notices walks2 pairs hit left_) fun y =>
  round_crier_serve_l3 notices walks2 ok left_ met5 k y met5)) fun met6 =>
  round_crier_serve_l2 walks hears houses start notices walks2 pairs hit ok left_ tl2 (k + 1) met6
def round_crier_serve_l1 (walks : List (List Int)) (hears : List (List Int)) (houses : Int) (start : Int) (notices : List ((List Int) × Int × Int)) (walks2 : List Int) (pairs : List (Int × Int)) (hit : List Int) (set_ : Int) (ok : (Int × Int) → Option Bool) : Nat → (List ((Int × Int) × (Int × Int × Int × Int × Int))) → Int → Option (List ((Int × Int) × (Int × Int × Int × Int × Int)))
  | 0, _, _ => none
  | fu1 + 1, met3, left_ =>
  if 0 < left_ then
  (b1 (if (bandn left_ set_) ≠ 0 then
  (some met3)
  else
  (round_crier_serve_l2 walks hears houses start notices walks2 pairs hit ok left_ hears 0 met3)) fun met4 =>
  gd (R64 (left_ - 1)) <|
  round_crier_serve_l1 walks hears houses start notices walks2 pairs hit set_ ok fu1 met4 (left_ - 1))
  else
  (some met3)
def round_crier_serve_l4 (met2 : List ((Int × Int) × (Int × Int × Int × Int × Int))) : List (List Int) → Int → Int → Int → Option (Int × Int)
  | [], _k3, end_stand2, minute2 =>
  some (end_stand2, minute2)
  | _x5 :: tl6, k3, end_stand2, minute2 =>
  b1 (if ((mget met2 (k3, 0)).isSome) = true then
  (if minute2 = (-1) then
  (some true)
  else
  (some (decide ((((mget met2 (k3, 0)).getD (0, 0, 0, 0, 0)).1) < minute2))))
  else
  (some false)) fun k4 =>
  if k4 = true then
  (bv (((mget met2 (k3, 0)).getD (0, 0, 0, 0, 0)).1) fun minute3 =>
  round_crier_serve_l4 met2 tl6 (k3 + 1) k3 minute3)
  else
  (round_crier_serve_l4 met2 tl6 (k3 + 1) end_stand2 minute2)
def round_crier_serve_l5 (set_ : Int) (met2 : List ((Int × Int) × (Int × Int × Int × Int × Int))) : Nat → Int → Int → (List (Int × Int)) → Option (List (Int × Int))
  | 0, _, _, _ => none
  | fu5 + 1, end_stand3, end_left, out2 =>
  if end_left ≠ set_ then
  (ap out2 [(((mget met2 (end_stand3, end_left)).getD (0, 0, 0, 0, 0)).2.1, ((mget met2 (end_stand3, end_left)).getD (0, 0, 0, 0, 0)).2.2.1)] fun out3 =>
  round_crier_serve_l5 set_ met2 fu5 (((mget met2 (end_stand3, end_left)).getD (0, 0, 0, 0, 0)).2.2.2.1) (((mget met2 (end_stand3, end_left)).getD (0, 0, 0, 0, 0)).2.2.2.2) out3)
  else
  (some out2)
def round_crier_serve (walks : List (List Int)) (hears : List (List Int)) (houses : Int) (start : Int) (notices : List ((List Int) × Int × Int)) (walks2 : List Int) (pairs : List (Int × Int)) (hit : List Int) (set_ : Int) (ok : (Int × Int) → Option Bool) : Option ((List (Int × Int)) × Int × Bool) :=
  bv (mput [] (start, set_) (0, 0, 0, 0, 0)) fun met =>
  b1 (round_crier_serve_l1 walks hears houses start notices walks2 pairs hit set_ ok FU met set_) fun met2 =>
  b2 (round_crier_serve_l4 met2 hears 0 (-1) (-1)) fun end_stand minute =>
  if minute = (-1) then
  (some ([], 0, false))
  else
  (b1 (round_crier_serve_l5 set_ met2 FU end_stand 0 []) fun out =>
  b1 (slices_Reverse_round_Cry_round_Cry out) fun s_ =>
  some (s_, minute, true))
def round_crier_of_l1 (notices2 : List Int) : List (Int × Int) → Int → Int → Option Int
  | [], _k, set_2 =>
  some set_2
  | x :: tl2, k, set_2 =>
  b1 (slices_Contains_int_int notices2 x.1) fun ok =>
  if ok = true then
  (gd ((0 ≤ (k : Int) ∧ (k : Int) < 64) ∧ R64 (shl 1 k)) <|
  round_crier_of_l1 notices2 tl2 (k + 1) (bor set_2 (shl 1 k)))
  else
  (round_crier_of_l1 notices2 tl2 (k + 1) set_2)
def round_crier_of (_walks : List (List Int)) (_hears : List (List Int)) (_houses : Int) (_start : Int) (_notices : List ((List Int) × Int × Int)) (_walks2 : List Int) (pairs : List (Int × Int)) (_hit : List Int) (notices2 : List Int) : Option Int :=
  b1 (round_crier_of_l1 notices2 pairs 0 0) fun set_ =>
  some set_
def round_crier_by_1 (notice : Int) (minute : Int) (last : Int) (_walks : List (List Int)) (_hears : List (List Int)) (_houses : Int) (_start : Int) (notices : List ((List Int) × Int × Int)) (_walks2 : List Int) (_pairs : List (Int × Int)) (_hit : List Int) : Option Bool :=
  ix notices notice fun x =>
  some (decide (minute ≤ (if x.2.2 < last then x.2.2 else last)))
def round_crier_by (walks : List (List Int)) (hears : List (List Int)) (houses : Int) (start : Int) (notices : List ((List Int) × Int × Int)) (walks2 : List Int) (pairs : List (Int × Int)) (hit : List Int) (last : Int) : Option ((Int × Int) → Option Bool) :=
  some (fun xx_ : Int × Int => round_crier_by_1 xx_.1 xx_.2 last walks hears houses start notices walks2 pairs hit)
def round_crier_hours (walks : List (List Int)) (hears : List (List Int)) (houses : Int) (start : Int) (notices : List ((List Int) × Int × Int)) (walks2 : List Int) (pairs : List (Int × Int)) (hit : List Int) : Option ((Int × Int) → Option Bool) :=
  b1 (round_crier_by walks hears houses start notices walks2 pairs hit 200) fun y =>
  some y
def round_Two_l2 (k : Int) : Nat → Int → (List Int) → (List Int) → (List Int) → Option ((List Int) × (List Int) × (List Int))
  | 0, _k2, who2, l_l3, l_l4 =>
  some (who2, l_l3, l_l4)
  | fu2 + 1, k2, who2, l_l3, l_l4 =>
  gd (R64 ((who2.length : Int) - 1)) <|
  gd (R64 (((who2.length : Int) - 1) - k2)) <|
  gd (0 ≤ (((who2.length : Int) - 1) - k2) ∧ (((who2.length : Int) - 1) - k2) < 64) <|
  ix who2 k2 fun _x =>
  bv (who2.set (k2 : Int).toNat (band (shr k (((who2.length : Int) - 1) - k2)) 1)) fun who3 =>
  ix who3 k2 fun x2 =>
  if x2 = 0 then
  (ap l_l3 [k2] fun l2 =>
  round_Two_l2 k fu2 (k2 + 1) who3 l2 l_l4)
  else
  (gd (x2 = 1) <|
  ap l_l4 [k2] fun l3 =>
  gd (x2 = 1) <|
  round_Two_l2 k fu2 (k2 + 1) who3 l_l3 l3)
def round_Two_l1 (notices : List ((List Int) × Int × Int)) (d : Option ((List (List Int)) × (List (List Int)) × Int × Int × (List ((List Int) × Int × Int)) × (List Int) × (List (Int × Int)) × (List Int))) : Nat → Int → (List Int) → Int → Option ((List Int) × Int)
  | 0, _k, out2, best2 =>
  some (out2, best2)
  | fu1 + 1, k, out2, best2 =>
  b2 (gd (0 ≤ (notices.length : Int) ∧ (notices.length : Int) ≤ 1048576) <|
  bv (List.replicate ((notices.length : Int) : Int).toNat 0 : List Int) fun l =>
  b3 (gd (R64 0 ∧ R64 (l.length : Int)) <|
  round_Two_l2 k (Int.toNat ((l.length : Int) - 0)) 0 l [] []) fun who l_l l_l2 =>
  b8 d fun walks2 hears2 houses2 start2 notices2 walks3 pairs hit =>
  b1 (round_crier_of walks2 hears2 houses2 start2 notices2 walks3 pairs hit l_l) fun n2 =>
  b1 (round_crier_hours walks2 hears2 houses2 start2 notices2 walks3 pairs hit) fun y =>
  b3 (round_crier_serve walks2 hears2 houses2 start2 notices2 walks3 pairs hit n2 y) fun _l4 n3 ok =>
  b1 (round_crier_of walks2 hears2 houses2 start2 notices2 walks3 pairs hit l_l2) fun n4 =>
  b1 (round_crier_hours walks2 hears2 houses2 start2 notices2 walks3 pairs hit) fun y2 =>
  b3 (round_crier_serve walks2 hears2 houses2 start2 notices2 walks3 pairs hit n4 y2) fun _l5 n5 ok2 =>
  b1 (if ok = true then
  (if ok2 = true then
  (if best2 = (-1) then
  (some true)
  else
  (some (decide ((if n5 > n3 then n5 else n3) < best2))))
  else
  (some false))
  else
  (some false)) fun k3 =>
  if k3 = true then
  (some (who, if n5 > n3 then n5 else n3))
  else
  (some (out2, best2))) fun out3 best3 =>
  round_Two_l1 notices d fu1 (k + 1) out3 best3
def round_Two (walks : List (List Int)) (hears : List (List Int)) (houses : Int) (start : Int) (notices : List ((List Int) × Int × Int)) : Option ((List Int) × Int × Int) :=
  b2 (round_opened walks hears houses start notices) fun d n =>
  if n ≠ 0 then
  (some ([], 0, n))
  else
  (b2 (gd ((0 ≤ ((notices.length : Int) : Int) ∧ ((notices.length : Int) : Int) < 64) ∧ R64 (shl 1 (notices.length : Int))) <|
  gd (R64 0 ∧ R64 (shl 1 (notices.length : Int))) <|
  round_Two_l1 notices d (Int.toNat ((shl 1 (notices.length : Int)) - 0)) 0 [] (-1)) fun out best =>
  if best = (-1) then
  (some ([], 0, 6))
  else
  (some (out, best, 0)))
def round_crier_all (_walks : List (List Int)) (_hears : List (List Int)) (_houses : Int) (_start : Int) (_notices : List ((List Int) × Int × Int)) (_walks2 : List Int) (pairs : List (Int × Int)) (_hit : List Int) : Option Int :=
  gd ((0 ≤ ((pairs.length : Int) : Int) ∧ ((pairs.length : Int) : Int) < 64) ∧ R64 (shl 1 (pairs.length : Int))) <|
  gd (R64 ((shl 1 (pairs.length : Int)) - 1)) <|
  some ((shl 1 (pairs.length : Int)) - 1)
def round_Best (walks : List (List Int)) (hears : List (List Int)) (houses : Int) (start : Int) (notices : List ((List Int) × Int × Int)) : Option ((List (Int × Int)) × Int × Int) :=
  b2 (round_opened walks hears houses start notices) fun d n =>
  if n ≠ 0 then
  (some ([], 0, n))
  else
  (b8 d fun walks2 hears2 houses2 start2 notices2 walks3 pairs hit =>
  b1 (round_crier_all walks2 hears2 houses2 start2 notices2 walks3 pairs hit) fun n2 =>
  b1 (round_crier_hours walks2 hears2 houses2 start2 notices2 walks3 pairs hit) fun y =>
  b3 (round_crier_serve walks2 hears2 houses2 start2 notices2 walks3 pairs hit n2 y) fun l n3 ok =>
  if (!ok) = true then
  (some ([], 0, 6))
  else
  (some (l, n3, 0)))
def oyezkit_Copy_int (l : List Int) : Option (List Int) :=
  gd (0 ≤ (l.length : Int) ∧ (l.length : Int) ≤ 1048576) <|
  bv (List.replicate ((l.length : Int) : Int).toNat 0 : List Int) fun l2 =>
  bv (cpy l2 l) fun out =>
  some out
def oyezkit_CopyRows_int_l1 : List (List Int) → Int → (List (List Int)) → Option (List (List Int))
  | [], _k, out2 =>
  some out2
  | x :: tl2, k, out2 =>
  b1 (oyezkit_Copy_int x) fun l3 =>
  ix out2 k fun _x2 =>
  bv (out2.set (k : Int).toNat l3) fun out3 =>
  oyezkit_CopyRows_int_l1 tl2 (k + 1) out3
def oyezkit_CopyRows_int (l : List (List Int)) : Option (List (List Int)) :=
  gd (0 ≤ (l.length : Int) ∧ (l.length : Int) ≤ 1048576) <|
  bv (List.replicate ((l.length : Int) : Int).toNat [] : List (List Int)) fun l2 =>
  b1 (oyezkit_CopyRows_int_l1 l 0 l2) fun out =>
  some out
def oyezkit_Copy_Notice (l : List ((List Int) × Int × Int)) : Option (List ((List Int) × Int × Int)) :=
  gd (0 ≤ (l.length : Int) ∧ (l.length : Int) ≤ 1048576) <|
  bv (List.replicate ((l.length : Int) : Int).toNat ([], 0, 0) : List ((List Int) × Int × Int)) fun l2 =>
  bv (cpy l2 l) fun out =>
  some out
def oyezlaw03_Own_l1 : Nat → Int → (List ((List Int) × Int × Int)) → Option (List ((List Int) × Int × Int))
  | 0, _k, b_notices2 =>
  some b_notices2
  | fu1 + 1, k, b_notices2 =>
  ix b_notices2 k fun x =>
  b1 (oyezkit_Copy_int x.1) fun l4 =>
  bv (b_notices2.set (k : Int).toNat (l4, x.2.1, x.2.2)) fun l5 =>
  oyezlaw03_Own_l1 fu1 (k + 1) l5
def oyezlaw03_Own (walks : List (List Int)) (hears : List (List Int)) (houses : Int) (start : Int) (notices : List ((List Int) × Int × Int)) : Option ((List (List Int)) × (List (List Int)) × Int × Int × (List ((List Int) × Int × Int))) :=
  b1 (oyezkit_CopyRows_int walks) fun l =>
  b1 (oyezkit_CopyRows_int hears) fun l2 =>
  b1 (oyezkit_Copy_Notice notices) fun l3 =>
  b1 (gd (R64 0 ∧ R64 (l3.length : Int)) <|
  oyezlaw03_Own_l1 (Int.toNat ((l3.length : Int) - 0)) 0 l3) fun b_notices =>
  some (l, l2, houses, start, b_notices)
def slices_Equal_int_int_j1 : Option Bool :=
  some true
def slices_Equal_int_int_l2 (s2 : List Int) : List Int → Int → Option Bool
  | [], _k =>
  slices_Equal_int_int_j1
  | x :: tl2, k =>
  ix s2 k fun x2 =>
  if x ≠ x2 then
  (some false)
  else
  (slices_Equal_int_int_l2 s2 tl2 (k + 1))
def slices_Equal_int_int (s1 : List Int) (s2 : List Int) : Option Bool :=
  if (s1.length : Int) ≠ (s2.length : Int) then
  (some false)
  else
  (slices_Equal_int_int_l2 s2 s1 0)
def oyezkit_Like_int (a : List Int) (b : List Int) : Option Bool :=
  b1 (slices_Equal_int_int a b) fun ok =>
  some ok
def oyezlaw03_Three : Option ((List (List Int)) × (List (List Int)) × Int × Int × (List ((List Int) × Int × Int))) :=
  some ([[0, 2, -1], [2, 0, 2], [-1, 2, 0]], [[0], [1], [1, 2]], 3, 0, [([0, 2], 3, 12), ([1], 1, 20)])
def round_Beat_notice (_walks : List (List Int)) (_hears : List (List Int)) (_houses : Int) (_start : Int) (notices : List ((List Int) × Int × Int)) (n : Int) : Option Bool :=
  gd (R64 ((notices.length : Int) - 1)) <|
  b1 (round_in n 0 ((notices.length : Int) - 1)) fun ok =>
  some ok
def round_gone_j1 (d : Option ((List (List Int)) × (List (List Int)) × Int × Int × (List ((List Int) × Int × Int)) × (List Int) × (List (Int × Int)) × (List Int))) (out : List Int) : Option ((Option ((List (List Int)) × (List (List Int)) × Int × Int × (List ((List Int) × Int × Int)) × (List Int) × (List (Int × Int)) × (List Int))) × (List Int) × Int) :=
  some (d, out, 0)
def round_gone_l2 (walks : List (List Int)) (hears : List (List Int)) (houses : Int) (start : Int) (notices : List ((List Int) × Int × Int)) (d : Option ((List (List Int)) × (List (List Int)) × Int × Int × (List ((List Int) × Int × Int)) × (List Int) × (List (Int × Int)) × (List Int))) : List (Int × Int) → Int → Int → (List Int) → Option ((Option ((List (List Int)) × (List (List Int)) × Int × Int × (List ((List Int) × Int × Int)) × (List Int) × (List (Int × Int)) × (List Int))) × (List Int) × Int)
  | [], _at_, _minute, out2 =>
  round_gone_j1 d out2
  | x :: tl2, at_, minute, out2 =>
  b1 (b1 (round_Beat_stand walks hears houses start notices x.1) fun ok =>
  if (!ok) = true then
  (some true)
  else
  (b1 (round_Beat_notice walks hears houses start notices x.2) fun ok2 =>
  some (!ok2))) fun k2 =>
  if k2 = true then
  (some (none, [], 1))
  else
  (b8 d fun _walks2 _hears2 _houses2 _start2 _notices2 walks3 _pairs _hit =>
  gd (0 ≤ at_ ∧ at_ < 5) <|
  gd (0 ≤ x.1 ∧ x.1 < 5) <|
  ix walks3 (at_ * 5 + x.1) fun x2 =>
  if x2 = (-1) then
  (some (none, [], 6))
  else
  (gd (R64 (minute + x2)) <|
  ix notices x.2 fun x3 =>
  gd (R64 ((minute + x2) + x3.2.1)) <|
  ap out2 [(minute + x2) + x3.2.1] fun out3 =>
  round_gone_l2 walks hears houses start notices d tl2 x.1 ((minute + x2) + x3.2.1) out3))
def round_gone (walks : List (List Int)) (hears : List (List Int)) (houses : Int) (start : Int) (notices : List ((List Int) × Int × Int)) (round : List (Int × Int)) : Option ((Option ((List (List Int)) × (List (List Int)) × Int × Int × (List ((List Int) × Int × Int)) × (List Int) × (List (Int × Int)) × (List Int))) × (List Int) × Int) :=
  b2 (round_opened walks hears houses start notices) fun d n =>
  if n ≠ 0 then
  (some (none, [], n))
  else
  (if 20 < (round.length : Int) then
  (some (none, [], 2))
  else
  (round_gone_l2 walks hears houses start notices d round start 0 []))
def math_bits_Mul64 (x : Int) (y : Int) : Option (Int × Int) :=
  bv (((bandK 64 x 4294967295) * (bandK 64 y 4294967295)) % 18446744073709551616) fun w0 =>
  bv (((((shr x 32) * (bandK 64 y 4294967295)) % 18446744073709551616) + (shr w0 32)) % 18446744073709551616) fun t =>
  bv (((bandK 64 t 4294967295) + (((bandK 64 x 4294967295) * (shr y 32)) % 18446744073709551616)) % 18446744073709551616) fun w1 =>
  bv (((((((shr x 32) * (shr y 32)) % 18446744073709551616) + (shr t 32)) % 18446744073709551616) + (shr w1 32)) % 18446744073709551616) fun hi =>
  bv ((x * y) % 18446744073709551616) fun lo =>
  some (hi, lo)
def math_bits_Mul (x : Int) (y : Int) : Option (Int × Int) :=
  b2 (math_bits_Mul64 x y) fun n n2 =>
  some (n, n2)
def slices_Repeat_int_int_l1 : Nat → (List Int) → Int → Option (List Int)
  | 0, _, _ => none
  | fu1 + 1, newslice3, n4 =>
  if n4 < (newslice3.length : Int) then
  (gd (0 ≤ n4 ∧ n4 ≤ (newslice3.length : Int)) <|
  gd (0 ≤ n4 ∧ n4 ≤ (newslice3.length : Int)) <|
  gd (0 ≤ n4 ∧ n4 < (newslice3.length : Int)) <|
  bv (newslice3.take (Int.toNat n4) ++ (newslice3.take (Nat.min (Int.toNat n4) (newslice3.length - (Int.toNat n4))) ++ newslice3.drop ((Int.toNat n4) + (Nat.min (Int.toNat n4) (newslice3.length - (Int.toNat n4)))))) fun l2 =>
  gd (R64 (n4 + (((Nat.min (Int.toNat n4) (newslice3.length - (Int.toNat n4))) : Nat) : Int))) <|
  bv (n4 + (((Nat.min (Int.toNat n4) (newslice3.length - (Int.toNat n4))) : Nat) : Int)) fun n5 =>
  slices_Repeat_int_int_l1 fu1 l2 n5)
  else
  (some newslice3)
def slices_Repeat_int_int (x : List Int) (count : Int) : Option (List Int) :=
  gd (¬ (count < 0)) <|
  b2 (math_bits_Mul ((x.length : Int) % 18446744073709551616) (count % 18446744073709551616)) fun n n2 =>
  b1 (if 0 < n then
  (some true)
  else
  (some (decide (9223372036854775807 < n2)))) fun k =>
  gd (k = false) <|
  gd (R64 n2) <|
  gd (0 ≤ n2 ∧ n2 ≤ 1048576) <|
  bv (List.replicate (n2 : Int).toNat 0 : List Int) fun l =>
  bv (cpy l x) fun newslice =>
  bv (((Nat.min x.length l.length : Nat) : Int)) fun n3 =>
  b1 (slices_Repeat_int_int_l1 FU newslice n3) fun newslice2 =>
  some newslice2
def round_Heard_l1 (houses : Int) : List ((List Int) × Int × Int) → (List (List Int)) → Option (List (List Int))
  | [], out2 =>
  some out2
  | _x :: tl2, out2 =>
  b1 (slices_Repeat_int_int [-1] houses) fun l2 =>
  ap out2 [l2] fun out3 =>
  round_Heard_l1 houses tl2 out3
def round_Heard_l3 (l : List Int) (k2 : Int) (x2 : Int × Int) : List Int → (List (List Int)) → Option (List (List Int))
  | [], out7 =>
  some out7
  | x4 :: tl6, out7 =>
  ix out7 x2.2 fun x5 =>
  ix x5 x4 fun x6 =>
  ix l k2 fun x7 =>
  b1 (round_soonest [x6, x7]) fun n2 =>
  bv (x5.set (x4 : Int).toNat n2) fun l3 =>
  bv (out7.set (x2.2 : Int).toNat l3) fun out8 =>
  round_Heard_l3 l k2 x2 tl6 out8
def round_Heard_l2 (hears : List (List Int)) (l : List Int) : List (Int × Int) → Int → (List (List Int)) → Option (List (List Int))
  | [], _k2, out5 =>
  some out5
  | x2 :: tl4, k2, out5 =>
  b1 (ix hears x2.1 fun x3 =>
  round_Heard_l3 l k2 x2 x3 out5) fun out6 =>
  round_Heard_l2 hears l tl4 (k2 + 1) out6
def round_Heard (walks : List (List Int)) (hears : List (List Int)) (houses : Int) (start : Int) (notices : List ((List Int) × Int × Int)) (round : List (Int × Int)) : Option ((List (List Int)) × Int) :=
  b3 (round_gone walks hears houses start notices round) fun _d l n =>
  if n ≠ 0 then
  (some ([], n))
  else
  (b1 (round_Heard_l1 houses notices []) fun out =>
  b1 (round_Heard_l2 hears l round 0 out) fun out4 =>
  some (out4, 0))
def round_Missed_l1 (notices : List ((List Int) × Int × Int)) (l : List (List Int)) : List (Int × Int) → (List (Int × Int)) → Option (List (Int × Int))
  | [], out2 =>
  some out2
  | x :: tl2, out2 =>
  ix l x.1 fun x2 =>
  ix x2 x.2 fun x3 =>
  ix notices x.1 fun x4 =>
  b1 (round_in x3 0 x4.2.2) fun ok =>
  if (!ok) = true then
  (ap out2 [(x.1, x.2)] fun out3 =>
  round_Missed_l1 notices l tl2 out3)
  else
  (round_Missed_l1 notices l tl2 out2)
def round_Missed (walks : List (List Int)) (hears : List (List Int)) (houses : Int) (start : Int) (notices : List ((List Int) × Int × Int)) (round : List (Int × Int)) : Option ((List (Int × Int)) × Int) :=
  b2 (round_Heard walks hears houses start notices round) fun l n =>
  if n ≠ 0 then
  (some ([], n))
  else
  (b2 (round_opened walks hears houses start notices) fun d _n2 =>
  b1 (b8 d fun _walks2 _hears2 _houses2 _start2 _notices2 _walks3 pairs _hit =>
  round_Missed_l1 notices l pairs []) fun out =>
  some (out, 0))
def round_Walk (walks : List (List Int)) (hears : List (List Int)) (houses : Int) (start : Int) (notices : List ((List Int) × Int × Int)) (from_ : Int) (to : Int) : Option (Int × Int) :=
  b2 (round_opened walks hears houses start notices) fun d n =>
  if n ≠ 0 then
  (some (0, n))
  else
  (b1 (b1 (round_Beat_stand walks hears houses start notices from_) fun ok =>
  if (!ok) = true then
  (some true)
  else
  (b1 (round_Beat_stand walks hears houses start notices to) fun ok2 =>
  some (!ok2))) fun k =>
  if k = true then
  (some (0, 1))
  else
  (b8 d fun _walks2 _hears2 _houses2 _start2 _notices2 walks3 _pairs _hit =>
  gd (0 ≤ from_ ∧ from_ < 5) <|
  gd (0 ≤ to ∧ to < 5) <|
  ix walks3 (from_ * 5 + to) fun x =>
  if x = (-1) then
  (some (0, 6))
  else
  (gd (0 ≤ from_ ∧ from_ < 5) <|
  gd (0 ≤ to ∧ to < 5) <|
  some (x, 0))))
def round_crier_chosen_l1 (set_ : Int) : List (Int × Int) → Int → (List (Int × Int)) → Option (List (Int × Int))
  | [], _k, out2 =>
  some out2
  | x :: tl2, k, out2 =>
  gd (0 ≤ k ∧ k < 64) <|
  if (band (shr set_ k) 1) = 1 then
  (ap out2 [(x.1, x.2)] fun out3 =>
  round_crier_chosen_l1 set_ tl2 (k + 1) out3)
  else
  (round_crier_chosen_l1 set_ tl2 (k + 1) out2)
def round_crier_chosen (_walks : List (List Int)) (_hears : List (List Int)) (_houses : Int) (_start : Int) (_notices : List ((List Int) × Int × Int)) (_walks2 : List Int) (pairs : List (Int × Int)) (_hit : List Int) (set_ : Int) : Option (List (Int × Int)) :=
  b1 (round_crier_chosen_l1 set_ pairs 0 []) fun out =>
  some out
def round_crier_excludes_1B_j1 (found2 : Int) : Option (Bool × Int) :=
  some (false, found2)
def round_crier_excludes_1B_l2 (set_ : Int) (many : Int) (walks : List (List Int)) (hears : List (List Int)) (houses : Int) (start : Int) (notices : List ((List Int) × Int × Int)) (walks2 : List Int) (pairs : List (Int × Int)) (hit : List Int) (ok : (Int × Int) → Option Bool) (rec_ : Int → Int → Int → (List (List Int)) → (List (List Int)) → Int → Int → (List ((List Int) × Int × Int)) → (List Int) → (List (Int × Int)) → (List Int) → ((Int × Int) → Option Bool) → Int → Option (Bool × Int)) : Nat → Int → Int → Option (Bool × Int)
  | 0, _i, found3 =>
  round_crier_excludes_1B_j1 found3
  | fu2 + 1, i, found3 =>
  gd ((0 ≤ (i : Int) ∧ (i : Int) < 64) ∧ R64 (shl 1 i)) <|
  gd (R64 (many - 1)) <|
  b2 (rec_ (bor set_ (shl 1 i)) (i + 1) (many - 1) walks hears houses start notices walks2 pairs hit ok found3) fun ok3 found4 =>
  if ok3 = true then
  (some (true, found4))
  else
  (round_crier_excludes_1B_l2 set_ many walks hears houses start notices walks2 pairs hit ok rec_ fu2 (i + 1) found4)
def round_crier_excludes_1B (rec_ : Int → Int → Int → (List (List Int)) → (List (List Int)) → Int → Int → (List ((List Int) × Int × Int)) → (List Int) → (List (Int × Int)) → (List Int) → ((Int × Int) → Option Bool) → Int → Option (Bool × Int)) (set_ : Int) (from_ : Int) (many : Int) (walks : List (List Int)) (hears : List (List Int)) (houses : Int) (start : Int) (notices : List ((List Int) × Int × Int)) (walks2 : List Int) (pairs : List (Int × Int)) (hit : List Int) (ok : (Int × Int) → Option Bool) (found : Int) : Option (Bool × Int) :=
  if many = 0 then
  (b3 (round_crier_serve walks hears houses start notices walks2 pairs hit set_ ok) fun _l _n ok2 =>
  if (!ok2) = true then
  (some (!ok2, set_))
  else
  (some (!ok2, found)))
  else
  (gd (R64 from_ ∧ R64 (pairs.length : Int)) <|
  round_crier_excludes_1B_l2 set_ many walks hears houses start notices walks2 pairs hit ok rec_ (Int.toNat ((pairs.length : Int) - from_)) from_ found)
def round_crier_excludes_1 : Nat → Int → Int → Int → (List (List Int)) → (List (List Int)) → Int → Int → (List ((List Int) × Int × Int)) → (List Int) → (List (Int × Int)) → (List Int) → ((Int × Int) → Option Bool) → Int → Option (Bool × Int)
  | 0, _, _, _, _, _, _, _, _, _, _, _, _, _ => none
  | fu + 1, set_, from_, many, walks, hears, houses, start, notices, walks2, pairs, hit, ok, found =>
  round_crier_excludes_1B (round_crier_excludes_1 fu) set_ from_ many walks hears houses start notices walks2 pairs hit ok found
def round_crier_excludes_l1 (walks : List (List Int)) (hears : List (List Int)) (houses : Int) (start : Int) (notices : List ((List Int) × Int × Int)) (walks2 : List Int) (pairs : List (Int × Int)) (hit : List Int) (ok : (Int × Int) → Option Bool) : Nat → Int → Int → Option Int
  | 0, _k, found2 =>
  some found2
  | fu1 + 1, k, found2 =>
  b2 (round_crier_excludes_1 FU 0 0 k walks hears houses start notices walks2 pairs hit ok found2) fun ok2 found3 =>
  if ok2 = true then
  (some found3)
  else
  (round_crier_excludes_l1 walks hears houses start notices walks2 pairs hit ok fu1 (k + 1) found3)
def round_crier_excludes (walks : List (List Int)) (hears : List (List Int)) (houses : Int) (start : Int) (notices : List ((List Int) × Int × Int)) (walks2 : List Int) (pairs : List (Int × Int)) (hit : List Int) (ok : (Int × Int) → Option Bool) : Option Int :=
  b1 (gd (R64 ((pairs.length : Int) + 1)) <|
  gd (R64 0 ∧ R64 ((pairs.length : Int) + 1)) <|
  round_crier_excludes_l1 walks hears houses start notices walks2 pairs hit ok (Int.toNat (((pairs.length : Int) + 1) - 0)) 0 0) fun found =>
  some found
def round_Before (walks : List (List Int)) (hears : List (List Int)) (houses : Int) (start : Int) (notices : List ((List Int) × Int × Int)) (minute : Int) : Option ((List (Int × Int)) × Int) :=
  b2 (round_opened walks hears houses start notices) fun d n =>
  if n ≠ 0 then
  (some ([], n))
  else
  (b1 (round_in minute 0 200) fun ok =>
  if (!ok) = true then
  (some ([], 3))
  else
  (b8 d fun walks2 hears2 houses2 start2 notices2 walks3 pairs hit =>
  b1 (round_crier_by walks2 hears2 houses2 start2 notices2 walks3 pairs hit minute) fun y =>
  b1 (round_crier_all walks2 hears2 houses2 start2 notices2 walks3 pairs hit) fun n2 =>
  b3 (round_crier_serve walks2 hears2 houses2 start2 notices2 walks3 pairs hit n2 y) fun _l _n3 ok2 =>
  if ok2 = true then
  (some ([], 6))
  else
  (b1 (round_crier_excludes walks2 hears2 houses2 start2 notices2 walks3 pairs hit y) fun n4 =>
  b1 (round_crier_chosen walks2 hears2 houses2 start2 notices2 walks3 pairs hit n4) fun l2 =>
  some (l2, 0))))
def slices_Equal_round_Pair_round_Pair_j1 : Option Bool :=
  some true
def slices_Equal_round_Pair_round_Pair_l2 (s2 : List (Int × Int)) : List (Int × Int) → Int → Option Bool
  | [], _k =>
  slices_Equal_round_Pair_round_Pair_j1
  | x :: tl2, k =>
  ix s2 k fun x2 =>
  if ¬ (x.1 = x2.1 ∧ x.2 = x2.2) then
  (some false)
  else
  (slices_Equal_round_Pair_round_Pair_l2 s2 tl2 (k + 1))
def slices_Equal_round_Pair_round_Pair (s1 : List (Int × Int)) (s2 : List (Int × Int)) : Option Bool :=
  if (s1.length : Int) ≠ (s2.length : Int) then
  (some false)
  else
  (slices_Equal_round_Pair_round_Pair_l2 s2 s1 0)
def oyezkit_Like_Pair (a : List (Int × Int)) (b : List (Int × Int)) : Option Bool :=
  b1 (slices_Equal_round_Pair_round_Pair a b) fun ok =>
  some ok
def round_Hurry_1_1 (n : Int) (minute : Int) (x : Int) (x2 : Int) (_walks : List (List Int)) (_hears : List (List Int)) (_houses : Int) (_start : Int) (notices : List ((List Int) × Int × Int)) (_walks2 : List Int) (_pairs : List (Int × Int)) (_hit : List Int) : Option Bool :=
  if n = x then
  (if minute ≤ x2 then
  (some true)
  else
  (if n ≠ x then
  (ix notices n fun x3 =>
  some (decide (minute ≤ x3.2.2)))
  else
  (some false)))
  else
  (if n ≠ x then
  (ix notices n fun x4 =>
  some (decide (minute ≤ x4.2.2)))
  else
  (some false))
def round_Hurry_1 (hour : Int) (walks : List (List Int)) (hears : List (List Int)) (houses : Int) (start : Int) (notices : List ((List Int) × Int × Int)) (walks2 : List Int) (pairs : List (Int × Int)) (hit : List Int) (notice : Int) : Option Bool :=
  b1 (round_crier_all walks hears houses start notices walks2 pairs hit) fun n =>
  b3 (round_crier_serve walks hears houses start notices walks2 pairs hit n (fun xx_ : Int × Int => round_Hurry_1_1 xx_.1 xx_.2 notice hour walks hears houses start notices walks2 pairs hit)) fun _l _n2 ok =>
  some ok
def round_Hurry_l1 (notice : Int) (walks2 : List (List Int)) (hears2 : List (List Int)) (houses2 : Int) (start2 : Int) (notices2 : List ((List Int) × Int × Int)) (walks3 : List Int) (pairs : List (Int × Int)) (hit : List Int) : Nat → Int → Int → Option Int
  | 0, _, _ => none
  | fu1 + 1, lo2, hi =>
  if lo2 < hi then
  (gd (R64 (lo2 + hi)) <|
  gd ((2 : Int) ≠ 0 ∧ R64 (Int.tdiv (lo2 + hi) 2)) <|
  b1 (round_Hurry_1 (Int.tdiv (lo2 + hi) 2) walks2 hears2 houses2 start2 notices2 walks3 pairs hit notice) fun ok3 =>
  if ok3 = true then
  (round_Hurry_l1 notice walks2 hears2 houses2 start2 notices2 walks3 pairs hit fu1 lo2 (Int.tdiv (lo2 + hi) 2))
  else
  (gd (R64 ((Int.tdiv (lo2 + hi) 2) + 1)) <|
  round_Hurry_l1 notice walks2 hears2 houses2 start2 notices2 walks3 pairs hit fu1 ((Int.tdiv (lo2 + hi) 2) + 1) hi))
  else
  (some lo2)
def round_Hurry (walks : List (List Int)) (hears : List (List Int)) (houses : Int) (start : Int) (notices : List ((List Int) × Int × Int)) (notice : Int) : Option (Int × Int) :=
  b2 (round_opened walks hears houses start notices) fun d n =>
  if n ≠ 0 then
  (some (0, n))
  else
  (b1 (round_Beat_notice walks hears houses start notices notice) fun ok =>
  if (!ok) = true then
  (some (0, 1))
  else
  (b8 d fun walks2 hears2 houses2 start2 notices2 walks3 pairs hit =>
  b1 (round_Hurry_1 200 walks2 hears2 houses2 start2 notices2 walks3 pairs hit notice) fun ok2 =>
  if (!ok2) = true then
  (some (0, 6))
  else
  (b1 (round_Hurry_l1 notice walks2 hears2 houses2 start2 notices2 walks3 pairs hit FU 0 200) fun lo =>
  some (lo, 0))))
def slices_IndexFunc_round_Pair_round_Pair_j1 : Option Int :=
  some (-1)
def slices_IndexFunc_round_Pair_round_Pair_l2 (f : (Int × Int) → Option Bool) : List (Int × Int) → Int → Option Int
  | [], _k =>
  slices_IndexFunc_round_Pair_round_Pair_j1
  | x :: tl2, k =>
  b1 (f (x.1, x.2)) fun ok =>
  if ok = true then
  (some k)
  else
  (slices_IndexFunc_round_Pair_round_Pair_l2 f tl2 (k + 1))
def slices_IndexFunc_round_Pair_round_Pair (s_ : List (Int × Int)) (f : (Int × Int) → Option Bool) : Option Int :=
  slices_IndexFunc_round_Pair_round_Pair_l2 f s_ 0
def round_crier_index_1 (notice : Int) (house : Int) (notice2 : Int) (house2 : Int) : Option Bool :=
  some (decide (notice = notice2 ∧ house = house2))
def round_crier_index (_walks : List (List Int)) (_hears : List (List Int)) (_houses : Int) (_start : Int) (_notices : List ((List Int) × Int × Int)) (_walks2 : List Int) (pairs : List (Int × Int)) (_hit : List Int) (notice : Int) (house : Int) : Option Int :=
  b1 (slices_IndexFunc_round_Pair_round_Pair pairs (fun xx_ : (Int × Int) => round_crier_index_1 xx_.1 xx_.2 notice house)) fun n =>
  some n
def round_crier_first_l1 (start : Int) (notices : List ((List Int) × Int × Int)) (walks2 : List Int) (notice : Int) (house : Int) : List (List Int) → Int → Int → Option Int
  | [], _k, out2 =>
  some out2
  | x :: tl2, k, out2 =>
  gd (0 ≤ start ∧ start < 5) <|
  gd (0 ≤ k ∧ k < 5) <|
  ix walks2 (start * 5 + k) fun x2 =>
  b1 (if x2 ≠ (-1) then
  (b1 (slices_Contains_int_int x house) fun ok =>
  some ok)
  else
  (some false)) fun k2 =>
  if k2 = true then
  (ix notices notice fun x3 =>
  gd (R64 (x2 + x3.2.1)) <|
  b1 (round_soonest [out2, x2 + x3.2.1]) fun n =>
  round_crier_first_l1 start notices walks2 notice house tl2 (k + 1) n)
  else
  (round_crier_first_l1 start notices walks2 notice house tl2 (k + 1) out2)
def round_crier_first (_walks : List (List Int)) (hears : List (List Int)) (_houses : Int) (start : Int) (notices : List ((List Int) × Int × Int)) (walks2 : List Int) (_pairs : List (Int × Int)) (_hit : List Int) (notice : Int) (house : Int) : Option Int :=
  b1 (round_crier_first_l1 start notices walks2 notice house hears 0 (-1)) fun out =>
  some out
def round_Soonest (walks : List (List Int)) (hears : List (List Int)) (houses : Int) (start : Int) (notices : List ((List Int) × Int × Int)) (notice : Int) (house : Int) : Option (Int × Int) :=
  b2 (round_opened walks hears houses start notices) fun d n =>
  if n ≠ 0 then
  (some (0, n))
  else
  (b8 d fun walks2 hears2 houses2 start2 notices2 walks3 pairs hit =>
  b1 (round_crier_index walks2 hears2 houses2 start2 notices2 walks3 pairs hit notice house) fun n2 =>
  if n2 < 0 then
  (some (0, 1))
  else
  (b1 (round_crier_first walks2 hears2 houses2 start2 notices2 walks3 pairs hit notice house) fun n3 =>
  if n3 = (-1) then
  (some (0, 6))
  else
  (some (n3, 0))))
def oyezlaw03_awake : Option Bool :=
  b5 (oyezlaw03_Three) fun l l2 n n2 l3 =>
  b3 (round_Best l l2 n n2 l3) fun l4 n3 n4 =>
  b5 (oyezlaw03_Three) fun l5 l6 n5 n6 l7 =>
  b2 (round_Missed l5 l6 n5 n6 l7 l4) fun l8 n7 =>
  b5 (oyezlaw03_Three) fun l9 l10 n8 n9 l11 =>
  b2 (round_Walk l9 l10 n8 n9 l11 0 2) fun n10 n11 =>
  b5 (oyezlaw03_Three) fun l12 l13 n12 n13 l14 =>
  b2 (round_Before l12 l13 n12 n13 l14 10) fun l15 n14 =>
  b1 (if n4 ≠ 0 then
  (some true)
  else
  (if n7 ≠ 0 then
  (some true)
  else
  (if n11 ≠ 0 then
  (some true)
  else
  (if n14 ≠ 0 then
  (some true)
  else
  (if n3 ≠ 11 then
  (some true)
  else
  (if 0 < (l8.length : Int) then
  (some true)
  else
  (if n10 ≠ 4 then
  (some true)
  else
  (b1 (oyezkit_Like_Pair l15 [(0, 0), (0, 2), (1, 1)]) fun ok =>
  some (!ok))))))))) fun k =>
  if k = true then
  (some false)
  else
  (b5 (oyezlaw03_Three) fun l16 l17 n15 n16 l18 =>
  b2 (round_Hurry l16 l17 n15 n16 l18 1) fun n17 n18 =>
  b5 (oyezlaw03_Three) fun l19 l20 n19 n20 l21 =>
  b2 (round_Soonest l19 l20 n19 n20 l21 0 2) fun n21 n22 =>
  b5 (oyezlaw03_Three) fun l22 l23 n23 n24 l24 =>
  b3 (round_Two l22 l23 n23 n24 l24) fun l25 n25 n26 =>
  if n18 = 0 then
  (if n22 = 0 then
  (if n26 = 0 then
  (if n17 = 6 then
  (if n21 = 7 then
  (if n25 = 10 then
  (b1 (oyezkit_Like_int l25 [0, 1]) fun ok2 =>
  some ok2)
  else
  (some false))
  else
  (some false))
  else
  (some false))
  else
  (some false))
  else
  (some false))
  else
  (some false))
def round_Excludes (walks : List (List Int)) (hears : List (List Int)) (houses : Int) (start : Int) (notices : List ((List Int) × Int × Int)) : Option ((List (Int × Int)) × Int) :=
  b2 (round_Before walks hears houses start notices 200) fun l n =>
  some (l, n)
def slices_Clone_int_int (s_ : List Int) : Option (List Int) :=
  nilIf (s_ = []) (some []) (ap ([] : List Int) s_ fun l =>
  some l)
def round_Most_1B_l1 (l : List Int) (walks : List (List Int)) (hears : List (List Int)) (houses : Int) (start : Int) (notices : List ((List Int) × Int × Int)) (walks2 : List Int) (pairs : List (Int × Int)) (hit : List Int) (walks3 : List (List Int)) (hears2 : List (List Int)) (houses2 : Int) (start2 : Int) (notices2 : List ((List Int) × Int × Int)) (rec_ : (List Int) → Int → (List (List Int)) → (List (List Int)) → Int → Int → (List ((List Int) × Int × Int)) → (List Int) → (List (Int × Int)) → (List Int) → (List Int) → (List (List Int)) → (List (List Int)) → Int → Int → (List ((List Int) × Int × Int)) → Option ((List Int))) : Nat → Int → (List Int) → Option (List Int)
  | 0, _n3, out3 =>
  some out3
  | fu1 + 1, n3, out3 =>
  b1 (slices_Clone_int_int l) fun l3 =>
  ap l3 [n3] fun l4 =>
  b1 (rec_ l4 (n3 + 1) walks hears houses start notices walks2 pairs hit out3 walks3 hears2 houses2 start2 notices2) fun out4 =>
  round_Most_1B_l1 l walks hears houses start notices walks2 pairs hit walks3 hears2 houses2 start2 notices2 rec_ fu1 (n3 + 1) out4
def round_Most_1B (rec_ : (List Int) → Int → (List (List Int)) → (List (List Int)) → Int → Int → (List ((List Int) × Int × Int)) → (List Int) → (List (Int × Int)) → (List Int) → (List Int) → (List (List Int)) → (List (List Int)) → Int → Int → (List ((List Int) × Int × Int)) → Option ((List Int))) (l : List Int) (from_ : Int) (walks : List (List Int)) (hears : List (List Int)) (houses : Int) (start : Int) (notices : List ((List Int) × Int × Int)) (walks2 : List Int) (pairs : List (Int × Int)) (hit : List Int) (out : List Int) (walks3 : List (List Int)) (hears2 : List (List Int)) (houses2 : Int) (start2 : Int) (notices2 : List ((List Int) × Int × Int)) : Option (List Int) :=
  b1 (round_crier_of walks hears houses start notices walks2 pairs hit l) fun n =>
  b1 (round_crier_hours walks hears houses start notices walks2 pairs hit) fun y =>
  b3 (round_crier_serve walks hears houses start notices walks2 pairs hit n y) fun _l2 _n2 ok =>
  if (!ok) = true then
  (some out)
  else
  (b1 (if (out.length : Int) < (l.length : Int) then
  (some l)
  else
  (some out)) fun out2 =>
  gd (R64 from_ ∧ R64 (notices2.length : Int)) <|
  round_Most_1B_l1 l walks hears houses start notices walks2 pairs hit walks3 hears2 houses2 start2 notices2 rec_ (Int.toNat ((notices2.length : Int) - from_)) from_ out2)
def round_Most_1 : Nat → (List Int) → Int → (List (List Int)) → (List (List Int)) → Int → Int → (List ((List Int) × Int × Int)) → (List Int) → (List (Int × Int)) → (List Int) → (List Int) → (List (List Int)) → (List (List Int)) → Int → Int → (List ((List Int) × Int × Int)) → Option (List Int)
  | 0, _, _, _, _, _, _, _, _, _, _, _, _, _, _, _, _ => none
  | fu + 1, l, from_, walks, hears, houses, start, notices, walks2, pairs, hit, out, walks3, hears2, houses2, start2, notices2 =>
  round_Most_1B (round_Most_1 fu) l from_ walks hears houses start notices walks2 pairs hit out walks3 hears2 houses2 start2 notices2
def round_Most (walks : List (List Int)) (hears : List (List Int)) (houses : Int) (start : Int) (notices : List ((List Int) × Int × Int)) : Option ((List Int) × Int) :=
  b2 (round_opened walks hears houses start notices) fun d n =>
  if n ≠ 0 then
  (some ([], n))
  else
  (b8 d fun walks2 hears2 houses2 start2 notices2 walks3 pairs hit =>
  b1 (round_Most_1 FU [] 0 walks2 hears2 houses2 start2 notices2 walks3 pairs hit [] walks hears houses start notices) fun out =>
  some (out, 0))
def oyezlaw03_RoundNamed_1_l1 (x : List Int) : List Int → (List Int) → Option (List Int)
  | [], out2 =>
  some out2
  | x2 :: tl2, out2 =>
  ix x x2 fun x3 =>
  ap out2 [x3] fun out3 =>
  oyezlaw03_RoundNamed_1_l1 x tl2 out3
def oyezlaw03_RoundNamed_1 (l : List Int) (x : List Int) : Option (List Int) :=
  b1 (oyezlaw03_RoundNamed_1_l1 x l []) fun out =>
  some out
def oyezlaw03_RoundNamed_l2 (l4 : List Int) (x3 : Int) (l10 : List (List Int)) : List Int → Int → (List (List Int)) → Option ((List (List Int)) × (List (List Int)))
  | [], _k2, u_walks4 =>
  some (u_walks4, l10)
  | x6 :: tl4, k2, u_walks4 =>
  ix u_walks4 x3 fun x7 =>
  ix l4 k2 fun x8 =>
  ix x7 x8 fun _x9 =>
  bv (x7.set (x8 : Int).toNat x6) fun l11 =>
  bv (u_walks4.set (x3 : Int).toNat l11) fun u =>
  oyezlaw03_RoundNamed_l2 l4 x3 l10 tl4 (k2 + 1) u
def oyezlaw03_RoundNamed_l1 (l : List (List Int)) (l4 : List Int) (l5 : List Int) : List (List Int) → Int → (List (List Int)) → (List (List Int)) → Option ((List (List Int)) × (List (List Int)) × (List Int))
  | [], _k, u_walks2, u_hears2 =>
  some (u_walks2, u_hears2, l5)
  | x2 :: tl2, k, u_walks2, u_hears2 =>
  b2 (ix l4 k fun x3 =>
  ix u_hears2 x3 fun _x4 =>
  b1 (oyezlaw03_RoundNamed_1 x2 l5) fun l9 =>
  bv (u_hears2.set (x3 : Int).toNat l9) fun l10 =>
  ix l k fun x5 =>
  oyezlaw03_RoundNamed_l2 l4 x3 l10 x5 0 u_walks2) fun u_walks3 u_hears3 =>
  oyezlaw03_RoundNamed_l1 l l4 l5 tl2 (k + 1) u_walks3 u_hears3
def oyezlaw03_RoundNamed_l3 (x : List Int) : List ((List Int) × Int × Int) → Int → (List ((List Int) × Int × Int)) → Option (List ((List Int) × Int × Int))
  | [], _k3, u_notices2 =>
  some u_notices2
  | x11 :: tl6, k3, u_notices2 =>
  b1 (oyezlaw03_RoundNamed_1 x11.1 x) fun l12 =>
  ix u_notices2 k3 fun x12 =>
  bv (u_notices2.set (k3 : Int).toNat (l12, x12.2.1, x12.2.2)) fun l13 =>
  oyezlaw03_RoundNamed_l3 x tl6 (k3 + 1) l13
def oyezlaw03_RoundNamed (numbers : List Int) (names : List Int) : Option Bool :=
  b3 (oyezkit_Hang numbers) fun metal at_ turn =>
  b7 (oyezlaw03_Made metal at_ turn 4 4 2) fun l l2 n n2 l3 _at_2 _turn2 =>
  b3 (oyezkit_Hang names) fun metal2 at_3 turn3 =>
  b3 (oyezkit_Bell_Rung metal2 at_3 turn3 (l2.length : Int)) fun l4 at_4 turn4 =>
  b3 (oyezkit_Bell_Rung metal2 at_4 turn4 n) fun l5 _at_5 _turn5 =>
  b5 (oyezlaw03_Own l l2 n n2 l3) fun l6 l7 n3 _n4 l8 =>
  b3 (oyezlaw03_RoundNamed_l1 l l4 l5 l2 0 l6 l7) fun u_walks u_hears x =>
  ix l4 n2 fun x10 =>
  b1 (oyezlaw03_RoundNamed_l3 x l3 0 l8) fun u_notices =>
  b3 (round_Best l l2 n n2 l3) fun _l14 n5 n6 =>
  b3 (round_Best u_walks u_hears n3 x10 u_notices) fun _l15 n7 n8 =>
  b2 (round_Most l l2 n n2 l3) fun l16 n9 =>
  b2 (round_Most u_walks u_hears n3 x10 u_notices) fun l17 n10 =>
  b2 (round_Excludes l l2 n n2 l3) fun l18 n11 =>
  b2 (round_Excludes u_walks u_hears n3 x10 u_notices) fun l19 n12 =>
  b3 (round_Two l l2 n n2 l3) fun _l20 n13 n14 =>
  b3 (round_Two u_walks u_hears n3 x10 u_notices) fun _l21 n15 n16 =>
  if n6 = n8 then
  (if n5 = n7 then
  (if n9 = 0 then
  (if n10 = 0 then
  (b1 (oyezkit_Like_int l16 l17) fun ok =>
  if ok = true then
  (if n11 = n12 then
  (if (l18.length : Int) = (l19.length : Int) then
  (if n14 = n16 then
  (if n13 = n15 then
  (b1 (oyezlaw03_awake) fun ok2 =>
  some ok2)
  else
  (some false))
  else
  (some false))
  else
  (some false))
  else
  (some false))
  else
  (some false))
  else
  (some false))
  else
  (some false))
  else
  (some false))
  else
  (some false)
end Go.Proofs.Ytfmapnhfamoecaa
