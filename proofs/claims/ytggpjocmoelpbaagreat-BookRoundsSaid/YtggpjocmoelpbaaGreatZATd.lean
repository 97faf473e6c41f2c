/- Plain functions that mirror the code, printed by a program of mine. -/
import Derived.Test.YtggpjocmoelpbaaGreatZAPl
namespace Go.Proofs.YtggpjocmoelpbaaGreat
open Go.PL
abbrev RwL := List (List Int)
abbrev CsL := List (Int × Int × Int)
abbrev HsL := List (List (List Int))
abbrev NtL := List ((List Int) × Int × Int)
def strt_0 : List Int := [0, 1, 2, 2, 3, 3, 3, 3, 4, 4, 4, 4, 4, 4, 4, 4, 5, 5, 5, 5, 5, 5, 5, 5, 5, 5, 5, 5, 5, 5, 5, 5, 6, 6, 6, 6, 6, 6, 6, 6, 6, 6, 6, 6, 6, 6, 6, 6, 6, 6, 6, 6, 6, 6, 6, 6, 6, 6, 6, 6, 6, 6, 6, 6, 7, 7, 7, 7, 7, 7, 7, 7, 7, 7, 7, 7, 7, 7, 7, 7, 7, 7, 7, 7, 7, 7, 7, 7, 7, 7, 7, 7, 7, 7, 7, 7, 7, 7, 7, 7, 7, 7, 7, 7, 7, 7, 7, 7, 7, 7, 7, 7, 7, 7, 7, 7, 7, 7, 7, 7, 7, 7, 7, 7, 7, 7, 7, 7, 8, 8, 8, 8, 8, 8, 8, 8, 8, 8, 8, 8, 8, 8, 8, 8, 8, 8, 8, 8, 8, 8, 8, 8, 8, 8, 8, 8, 8, 8, 8, 8, 8, 8, 8, 8, 8, 8, 8, 8, 8, 8, 8, 8, 8, 8, 8, 8, 8, 8, 8, 8, 8, 8, 8, 8, 8, 8, 8, 8, 8, 8, 8, 8, 8, 8, 8, 8, 8, 8, 8, 8, 8, 8, 8, 8, 8, 8, 8, 8, 8, 8, 8, 8, 8, 8, 8, 8, 8, 8, 8, 8, 8, 8, 8, 8, 8, 8, 8, 8, 8, 8, 8, 8, 8, 8, 8, 8, 8, 8, 8, 8, 8, 8, 8, 8, 8, 8, 8, 8, 8, 8, 8, 8, 8, 8, 8, 8]
def oyezkit_Bell_ring (metal : List Int) (at_ turn : Int) : Option (Int × Int × Int) :=
  b2 (if at_ = (metal.length : Int) then
  (some (0, (turn + 1) % 4294967296))
  else
  (some (at_, turn))) fun b_at b_turn =>
  bv ((30011 * b_turn) % 4294967296) fun n =>
  b2 (if 0 < (metal.length : Int) then
  (ix metal b_at fun x =>
  bv ((n + ((263 * (x % 4294967296)) % 4294967296)) % 4294967296) fun n3 =>
  gd (R64 (b_at + 1)) <|
  some (n3, b_at + 1))
  else
  (some (n, b_at))) fun n2 b_at2 =>
  gd (R64 (bandK 32 (bxorK 32 n2 (shr n2 7)) 65535)) <|
  some (bandK 32 (bxorK 32 n2 (shr n2 7)) 65535, b_at2, b_turn)
def oyezkit_Bell_Stroke (metal : List Int) (at_ turn n : Int) : Option (Int × Int × Int) :=
  b3 (oyezkit_Bell_ring metal at_ turn) fun n2 at_2 turn2 =>
  gd (R64 (n + 1)) <|
  gd ((if n + 1 > 1 then n + 1 else 1) ≠ 0) <|
  some (Int.tmod n2 (if n + 1 > 1 then n + 1 else 1), at_2, turn2)
def oyezkit_Bell_Strike (metal : List Int) (at_ turn lo hi : Int) : Option (Int × Int × Int) :=
  gd (R64 (hi - lo)) <|
  b3 (oyezkit_Bell_Stroke metal at_ turn (hi - lo)) fun n at_2 turn2 =>
  gd (R64 (lo + n)) <|
  some (lo + n, at_2, turn2)
def oyezkit_Bell_Seldom (metal : List Int) (at_ turn n : Int) : Option (Bool × Int × Int) :=
  gd (R64 (n - 1)) <|
  b3 (oyezkit_Bell_Stroke metal at_ turn (n - 1)) fun n2 at_2 turn2 =>
  some (decide (n2 = 0), at_2, turn2)
def oyezkit_Bell_Rung_l1 (metal : List Int) : Nat → Int → Int → Int → (List Int) → Option ((List Int) × Int × Int)
  | 0, _k, b_at2, b_turn2, out2 =>
  some (out2, b_at2, b_turn2)
  | fu1 + 1, k, b_at2, b_turn2, out2 =>
  b3 (oyezkit_Bell_Stroke metal b_at2 b_turn2 k) fun n2 at_2 turn2 =>
  ap out2 [k] fun out3 =>
  ix out3 k fun x =>
  ix out3 n2 fun x2 =>
  bv (out3.set (n2 : Int).toNat x) fun l =>
  ix l k fun _x3 =>
  bv (l.set (k : Int).toNat x2) fun l2 =>
  oyezkit_Bell_Rung_l1 metal fu1 (k + 1) at_2 turn2 l2
def oyezkit_Bell_Rung (metal : List Int) (at_ turn n : Int) : Option ((List Int) × Int × Int) :=
  b3 (gd (R64 0 ∧ R64 (if n > 0 then n else 0)) <|
  oyezkit_Bell_Rung_l1 metal (Int.toNat ((if n > 0 then n else 0) - 0)) 0 at_ turn []) fun out b_at b_turn =>
  some (out, b_at, b_turn)
def oyezlaw03_Made_l2 (metal : List Int) (k : Int) : Nat → Int → Int → Int → RwL → Option (Int × Int × RwL)
  | 0, _k2, b_at5, b_turn5, t_walks5 =>
  some (b_at5, b_turn5, t_walks5)
  | fu2 + 1, k2, b_at5, b_turn5, t_walks5 =>
  b3 (oyezkit_Bell_Strike metal b_at5 b_turn5 1 6) fun n3 at_4 turn4 =>
  b3 (if k = k2 then
  (some (at_4, turn4, 0))
  else
  (b3 (oyezkit_Bell_Seldom metal at_4 turn4 5) fun ok at_5 turn5 =>
  if ok = true then
  (some (at_5, turn5, -1))
  else
  (some (at_5, turn5, n3)))) fun b_at6 b_turn6 w =>
  ix t_walks5 k fun x =>
  ap x [w] fun l =>
  bv (t_walks5.set (k : Int).toNat l) fun l2 =>
  oyezlaw03_Made_l2 metal k fu2 (k2 + 1) b_at6 b_turn6 l2
def oyezlaw03_Made_l1 (metal : List Int) (n n2 : Int) : Nat → Int → Int → Int → RwL → RwL → Option (Int × Int × RwL × RwL)
  | 0, _k, b_at2, b_turn2, t_walks2, t_hears2 =>
  some (b_at2, b_turn2, t_walks2, t_hears2)
  | fu1 + 1, k, b_at2, b_turn2, t_walks2, t_hears2 =>
  b4 (ap t_walks2 [[]] fun t =>
  b3 (gd (R64 0 ∧ R64 n2) <|
  oyezlaw03_Made_l2 metal k (Int.toNat (n2 - 0)) 0 b_at2 b_turn2 t) fun b_at4 b_turn4 t_walks4 =>
  b3 (oyezkit_Bell_Rung metal b_at4 b_turn4 n) fun l3 at_6 turn6 =>
  b3 (oyezkit_Bell_Stroke metal at_6 turn6 (l3.length : Int)) fun n4 at_7 turn7 =>
  gd ((0 ≤ (0 : Int) ∧ (0 : Int) ≤ n4) ∧ n4 ≤ l3.length) <|
  bv (sl l3 0 n4) fun l4 =>
  ap t_hears2 [l4] fun l5 =>
  some (at_7, turn7, t_walks4, l5)) fun b_at3 b_turn3 t_walks3 t_hears3 =>
  oyezlaw03_Made_l1 metal n n2 fu1 (k + 1) b_at3 b_turn3 t_walks3 t_hears3
def oyezlaw03_Made_l3 (metal : List Int) (n : Int) : Nat → Int → Int → NtL → Int → Option (NtL × Int × Int)
  | 0, b_at8, b_turn8, t_notices2, _left_ =>
  some (t_notices2, b_at8, b_turn8)
  | fu3 + 1, b_at8, b_turn8, t_notices2, left_ =>
  b3 (oyezkit_Bell_Rung metal b_at8 b_turn8 n) fun l6 at_10 turn10 =>
  b3 (oyezkit_Bell_Strike metal at_10 turn10 1 (l6.length : Int)) fun n7 at_11 turn11 =>
  gd ((0 ≤ (0 : Int) ∧ (0 : Int) ≤ (if n7 < left_ then n7 else left_)) ∧ (if n7 < left_ then n7 else left_) ≤ l6.length) <|
  bv (sl l6 0 (if n7 < left_ then n7 else left_)) fun l7 =>
  gd (R64 (left_ - (l7.length : Int))) <|
  if 0 < (l7.length : Int) then
  (b3 (oyezkit_Bell_Strike metal at_11 turn11 1 4) fun n8 at_12 turn12 =>
  b3 (oyezkit_Bell_Strike metal at_12 turn12 4 45) fun n9 at_13 turn13 =>
  ap t_notices2 [(l7, n8, n9)] fun l8 =>
  oyezlaw03_Made_l3 metal n fu3 at_13 turn13 l8 (left_ - (l7.length : Int)))
  else
  (oyezlaw03_Made_l3 metal n fu3 at_11 turn11 t_notices2 (left_ - (l7.length : Int)))
def oyezlaw03_Made (metal : List Int) (at_ turn stands houses notices : Int) : Option (RwL × RwL × Int × Int × NtL × Int × Int) :=
  b3 (oyezkit_Bell_Strike metal at_ turn 1 houses) fun n at_2 turn2 =>
  b3 (oyezkit_Bell_Strike metal at_2 turn2 1 stands) fun n2 at_3 turn3 =>
  b4 (gd (R64 0 ∧ R64 n2) <|
  oyezlaw03_Made_l1 metal n n2 (Int.toNat (n2 - 0)) 0 at_3 turn3 [] []) fun b_at b_turn t_walks t_hears =>
  gd (R64 (n2 - 1)) <|
  b3 (oyezkit_Bell_Stroke metal b_at b_turn (n2 - 1)) fun n5 at_8 turn8 =>
  b3 (b3 (oyezkit_Bell_Stroke metal at_8 turn8 notices) fun n6 at_9 turn9 =>
  gd (R64 0 ∧ R64 n6) <|
  oyezlaw03_Made_l3 metal n (Int.toNat (n6 - 0)) at_9 turn9 [] 9) fun t_notices b_at7 b_turn7 =>
  some (t_walks, t_hears, n, n5, t_notices, b_at7, b_turn7)
def oyezkit_Hang (metal : List Int) : Option ((List Int) × Int × Int) :=
  some (metal, 0, 0)
def slices_Index_int_int_j1 : Option Int :=
  some (-1)
def slices_Index_int_int_l2 (v : Int) : List Int → Int → Option Int
  | [], _k =>
  slices_Index_int_int_j1
  | x :: tl2, k =>
  if v = x then
  (some k)
  else
  (slices_Index_int_int_l2 v tl2 (k + 1))
def slices_Index_int_int (s_ : List Int) (v : Int) : Option Int :=
  slices_Index_int_int_l2 v s_ 0
def slices_Contains_int_int (s_ : List Int) (v : Int) : Option Bool :=
  b1 (slices_Index_int_int s_ v) fun n =>
  some (decide (0 ≤ n))
def round_in (n lo hi : Int) : Option Bool :=
  if lo ≤ n then
  (some (decide (n ≤ hi)))
  else
  (some false)
def round_Beat_stand (_walks hears : RwL) (_houses _start : Int) (_notices : NtL) (s_ : Int) : Option Bool :=
  gd (R64 ((hears.length : Int) - 1)) <|
  b1 (round_in s_ 0 ((hears.length : Int) - 1)) fun ok =>
  some ok
def slices_IndexFunc_int_int_j1 : Option Int :=
  some (-1)
def slices_IndexFunc_int_int_l2 (f : (List Int) → Option Bool) : RwL → Int → Option Int
  | [], _k =>
  slices_IndexFunc_int_int_j1
  | x :: tl2, k =>
  b1 (f x) fun ok =>
  if ok = true then
  (some k)
  else
  (slices_IndexFunc_int_int_l2 f tl2 (k + 1))
def slices_IndexFunc_int_int (s_ : RwL) (f : (List Int) → Option Bool) : Option Int :=
  slices_IndexFunc_int_int_l2 f s_ 0
def slices_ContainsFunc_int_int (s_ : RwL) (f : (List Int) → Option Bool) : Option Bool :=
  b1 (slices_IndexFunc_int_int s_ f) fun n =>
  some (decide (0 ≤ n))
def round_every_int_1 (x : List Int) (so : (List Int) → Option Bool) : Option Bool :=
  b1 (so x) fun ok =>
  some (!ok)
def round_every_int (l : RwL) (so : (List Int) → Option Bool) : Option Bool :=
  b1 (slices_ContainsFunc_int_int l (fun xx_ : (List Int) => round_every_int_1 xx_ so)) fun ok =>
  some (!ok)
def round_Beat_counted_1 (l : List Int) (n : Int) : Option Bool :=
  some (decide ((l.length : Int) = n))
def round_Beat_counted (walks hears : RwL) (houses _start : Int) (notices : NtL) : Option Bool :=
  b1 (round_in (hears.length : Int) 1 5) fun ok =>
  if ok = true then
  (b1 (round_in houses 1 5) fun ok2 =>
  if ok2 = true then
  (if (notices.length : Int) ≤ 3 then
  (if (walks.length : Int) = (hears.length : Int) then
  (b1 (round_every_int walks (fun xx_ : (List Int) => round_Beat_counted_1 xx_ (hears.length : Int))) fun ok3 =>
  some ok3)
  else
  (some false))
  else
  (some false))
  else
  (some false))
  else
  (some false)
def round_Beat_walkable_j3 (k : Int) (rec2 : Int → Option Bool) : Option Bool :=
  rec2 (k + 1)
def round_Beat_walkable_l4 (k : Int) (rec2 : Int → Option Bool) : List Int → Int → Option Bool
  | [], _k2 =>
  round_Beat_walkable_j3 k rec2
  | x2 :: tl4, k2 =>
  b1 (if k = k2 then
  (if x2 ≠ 0 then
  (some true)
  else
  (if k ≠ k2 then
  (if x2 ≠ (-1) then
  (b1 (round_in x2 1 20) fun ok =>
  some (!ok))
  else
  (some false))
  else
  (some false)))
  else
  (if k ≠ k2 then
  (if x2 ≠ (-1) then
  (b1 (round_in x2 1 20) fun ok2 =>
  some (!ok2))
  else
  (some false))
  else
  (some false))) fun k3 =>
  if k3 = true then
  (some false)
  else
  (round_Beat_walkable_l4 k rec2 tl4 (k2 + 1))
def round_Beat_walkable_j1 : Option Bool :=
  some true
def round_Beat_walkable_l2 : RwL → Int → Option Bool
  | [], _k =>
  round_Beat_walkable_j1
  | x :: tl2, k =>
  round_Beat_walkable_l4 k (round_Beat_walkable_l2 tl2) x 0
def round_Beat_walkable (walks _hears : RwL) (_houses _start : Int) (_notices : NtL) : Option Bool :=
  round_Beat_walkable_l2 walks 0
def round_Beat_listed_j1 : Option Int :=
  some 0
def round_Beat_listed_l2 (houses : Int) (l : List Int) : List Int → Int → Option Int
  | [], _k =>
  round_Beat_listed_j1
  | x :: tl2, k =>
  gd (R64 (houses - 1)) <|
  b1 (round_in x 0 (houses - 1)) fun ok =>
  if (!ok) = true then
  (some 1)
  else
  (gd ((0 ≤ (0 : Int) ∧ (0 : Int) ≤ k) ∧ k ≤ l.length) <|
  bv (sl l 0 k) fun l2 =>
  b1 (slices_Contains_int_int l2 x) fun ok2 =>
  if ok2 = true then
  (some 5)
  else
  (round_Beat_listed_l2 houses l tl2 (k + 1)))
def round_Beat_listed (_walks _hears : RwL) (houses _start : Int) (_notices : NtL) (l : List Int) : Option Int :=
  round_Beat_listed_l2 houses l l 0
def round_Beat_check (walks hears : RwL) (houses start : Int) (notices : NtL) (quarter : List Int) (words hour : Int) : Option Int :=
  if (quarter.length : Int) = 0 then
  (some 6)
  else
  (b1 (round_Beat_listed walks hears houses start notices quarter) fun n =>
  if n ≠ 0 then
  (some n)
  else
  (b1 (b1 (round_in words 1 5) fun ok =>
  if (!ok) = true then
  (some true)
  else
  (b1 (round_in hour 0 200) fun ok2 =>
  some (!ok2))) fun k =>
  if k = true then
  (some 3)
  else
  (some 0)))
def round_Check_j3 (pairs : Int) : Option Int :=
  if 9 < pairs then
  (some 2)
  else
  (some 0)
def round_Check_l4 (walks hears : RwL) (houses start : Int) (notices : NtL) : NtL → Int → Option Int
  | [], pairs2 =>
  round_Check_j3 pairs2
  | x2 :: tl4, pairs2 =>
  b1 (round_Beat_check walks hears houses start notices x2.1 x2.2.1 x2.2.2) fun n2 =>
  if n2 ≠ 0 then
  (some n2)
  else
  (gd (R64 (pairs2 + (x2.1.length : Int))) <|
  round_Check_l4 walks hears houses start notices tl4 (pairs2 + (x2.1.length : Int)))
def round_Check_j1 (walks hears : RwL) (houses start : Int) (notices : NtL) : Option Int :=
  round_Check_l4 walks hears houses start notices notices 0
def round_Check_l2 (walks hears : RwL) (houses start : Int) (notices : NtL) : RwL → Option Int
  | [] =>
  round_Check_j1 walks hears houses start notices
  | x :: tl2 =>
  b1 (round_Beat_listed walks hears houses start notices x) fun n =>
  if n ≠ 0 then
  (some n)
  else
  (round_Check_l2 walks hears houses start notices tl2)
def round_Check (walks hears : RwL) (houses start : Int) (notices : NtL) : Option Int :=
  b1 (round_Beat_counted walks hears houses start notices) fun ok =>
  if (!ok) = true then
  (some 2)
  else
  (b1 (round_Beat_stand walks hears houses start notices start) fun ok2 =>
  if (!ok2) = true then
  (some 1)
  else
  (b1 (round_Beat_walkable walks hears houses start notices) fun ok3 =>
  if (!ok3) = true then
  (some 3)
  else
  (round_Check_l2 walks hears houses start notices hears)))
def round_soonest_l1 : List Int → Int → Option Int
  | [], out2 =>
  some out2
  | x :: tl2, out2 =>
  b1 (if x ≠ (-1) then
  (if out2 = (-1) then
  (some true)
  else
  (some (decide (x < out2))))
  else
  (some false)) fun k2 =>
  if k2 = true then
  (round_soonest_l1 tl2 x)
  else
  (round_soonest_l1 tl2 out2)
def round_soonest (l : List Int) : Option Int :=
  b1 (round_soonest_l1 l (-1)) fun out =>
  some out
def round_walks_through_l3 (w : List Int) (k k2 : Int) : Nat → Int → (List Int) → Option (List Int)
  | 0, _k3, out6 =>
  some out6
  | fu3 + 1, k3, out6 =>
  b1 (gd (0 ≤ k ∧ k < 5) <|
  gd (0 ≤ k3 ∧ k3 < 5) <|
  ix w (k * 5 + k3) fun x =>
  if x ≠ (-1) then
  (gd (0 ≤ k3 ∧ k3 < 5) <|
  gd (0 ≤ k2 ∧ k2 < 5) <|
  ix w (k3 * 5 + k2) fun x2 =>
  some (decide (x2 ≠ (-1))))
  else
  (some false)) fun k4 =>
  if k4 = true then
  (gd (0 ≤ k ∧ k < 5) <|
  gd (0 ≤ k2 ∧ k2 < 5) <|
  ix out6 (k * 5 + k2) fun x3 =>
  gd (0 ≤ k ∧ k < 5) <|
  gd (0 ≤ k3 ∧ k3 < 5) <|
  ix w (k * 5 + k3) fun x4 =>
  gd (0 ≤ k3 ∧ k3 < 5) <|
  gd (0 ≤ k2 ∧ k2 < 5) <|
  ix w (k3 * 5 + k2) fun x5 =>
  gd (R64 (x4 + x5)) <|
  gd (0 ≤ k ∧ k < 5) <|
  b1 (round_soonest [x3, x4 + x5]) fun n =>
  gd (0 ≤ k2 ∧ k2 < 5) <|
  bv (out6.set (k * 5 + k2 : Int).toNat n) fun l =>
  round_walks_through_l3 w k k2 fu3 (k3 + 1) l)
  else
  (round_walks_through_l3 w k k2 fu3 (k3 + 1) out6)
def round_walks_through_l2 (w : List Int) (k : Int) : Nat → Int → (List Int) → Option (List Int)
  | 0, _k2, out4 =>
  some out4
  | fu2 + 1, k2, out4 =>
  b1 (gd (R64 0 ∧ R64 5) <|
  round_walks_through_l3 w k k2 (Int.toNat (5 - 0)) 0 out4) fun out5 =>
  round_walks_through_l2 w k fu2 (k2 + 1) out5
def round_walks_through_l1 (w : List Int) : Nat → Int → (List Int) → Option (List Int)
  | 0, _k, out2 =>
  some out2
  | fu1 + 1, k, out2 =>
  b1 (gd (R64 0 ∧ R64 5) <|
  round_walks_through_l2 w k (Int.toNat (5 - 0)) 0 out2) fun out3 =>
  round_walks_through_l1 w fu1 (k + 1) out3
def round_walks_through (w : List Int) : Option (List Int) :=
  b1 (gd (R64 0 ∧ R64 5) <|
  round_walks_through_l1 w (Int.toNat (5 - 0)) 0 w) fun out =>
  some out
def slices_AppendSeq_int_int_l1 : List Int → (List Int) → Option (List Int)
  | [], s_3 =>
  some s_3
  | x :: tl2, s_3 =>
  ap s_3 [x] fun s_4 =>
  slices_AppendSeq_int_int_l1 tl2 s_4
def slices_AppendSeq_int_int (s_ seq : List Int) : Option (List Int) :=
  b1 (slices_AppendSeq_int_int_l1 seq s_) fun s_2 =>
  some s_2
def slices_Collect_int (seq : List Int) : Option (List Int) :=
  b1 (slices_AppendSeq_int_int [] seq) fun l =>
  some l
def cmp_isNaN_int (x : Int) : Option Bool :=
  some (decide (x ≠ x))
def cmp_Less_int (x y : Int) : Option Bool :=
  b1 (cmp_isNaN_int x) fun ok =>
  if ok = true then
  (b1 (cmp_isNaN_int y) fun ok2 =>
  if (!ok2) = true then
  (some true)
  else
  (some (decide (x < y))))
  else
  (some (decide (x < y)))
def slices_insertionSortOrdered_int_l2 (a : Int) : Nat → (List Int) → Int → Option (List Int)
  | 0, _, _ => none
  | fu2 + 1, data3, j =>
  b1 (if a < j then
  (ix data3 j fun x =>
  gd (R64 (j - 1)) <|
  ix data3 (j - 1) fun x2 =>
  b1 (cmp_Less_int x x2) fun ok =>
  some ok)
  else
  (some false)) fun k =>
  if k = true then
  (gd (R64 (j - 1)) <|
  gd (R64 (j - 1)) <|
  ix data3 (j - 1) fun x3 =>
  ix data3 j fun x4 =>
  bv (data3.set (j : Int).toNat x3) fun l =>
  ix l (j - 1) fun _x5 =>
  bv (l.set (j - 1 : Int).toNat x4) fun l2 =>
  gd (R64 (j - 1)) <|
  slices_insertionSortOrdered_int_l2 a fu2 l2 (j - 1))
  else
  (some data3)
def slices_insertionSortOrdered_int_l1 (a : Int) : Nat → Int → (List Int) → Option (List Int)
  | 0, _i, data =>
  some data
  | fu1 + 1, i, data =>
  b1 (slices_insertionSortOrdered_int_l2 a FU data i) fun data2 =>
  slices_insertionSortOrdered_int_l1 a fu1 (i + 1) data2
def slices_insertionSortOrdered_int (s_ : List Int) (a b : Int) : Option (List Int) :=
  gd (R64 (a + 1)) <|
  gd (R64 (a + 1) ∧ R64 b) <|
  slices_insertionSortOrdered_int_l1 a (Int.toNat (b - (a + 1))) (a + 1) s_
def math_bits_Len64 (x : Int) : Option Int :=
  b2 (if 4294967296 ≤ x then
  (some (shr x 32, 32))
  else
  (some (x, 0))) fun x2 n =>
  b2 (if 65536 ≤ x2 then
  (gd (R64 (n + 16)) <|
  some (shr x2 16, n + 16))
  else
  (some (x2, n))) fun x3 n2 =>
  b2 (if 256 ≤ x3 then
  (gd (R64 (n2 + 8)) <|
  some (shr x3 8, n2 + 8))
  else
  (some (x3, n2))) fun x4 n3 =>
  ix strt_0 (x4 % 256) fun x5 =>
  gd (R64 x5) <|
  gd (R64 (n3 + x5)) <|
  some (n3 + x5)
def math_bits_Len (x : Int) : Option Int :=
  b1 (math_bits_Len64 x) fun n =>
  some n
def slices_pdqsortOrdered_intB_l1 (s_ : List Int) (a b : Int) : Nat → Option (List Int)
  | 0 => none
  | _fu1 + 1 =>
  gd (R64 (b - a)) <|
  gd ((b - a) ≤ 12) <|
  b1 (slices_insertionSortOrdered_int s_ a b) fun s_2 =>
  some s_2
def slices_pdqsortOrdered_intB (_rec_ : (List Int) → Int → Int → Int → Option ((List Int))) (s_ : List Int) (a b _limit : Int) : Option (List Int) :=
  slices_pdqsortOrdered_intB_l1 s_ a b FU
def slices_pdqsortOrdered_int : Nat → (List Int) → Int → Int → Int → Option (List Int)
  | 0, _, _, _, _ => none
  | fu + 1, s_, a, b, limit =>
  slices_pdqsortOrdered_intB (slices_pdqsortOrdered_int fu) s_ a b limit
def slices_Sort_int_int (s_ : List Int) : Option (List Int) :=
  b1 (math_bits_Len ((s_.length : Int) % 18446744073709551616)) fun n =>
  b1 (slices_pdqsortOrdered_int FU s_ 0 (s_.length : Int) n) fun s_2 =>
  some s_2
def slices_Sorted_int (seq : List Int) : Option (List Int) :=
  b1 (slices_Collect_int seq) fun l =>
  b1 (slices_Sort_int_int l) fun s_ =>
  some s_
def slices_Values_int_int_1_l1 : List Int → Option (List Int)
  | [] =>
  some []
  | x :: tl2 =>
  yl x <|
  slices_Values_int_int_1_l1 tl2
def slices_Values_int_int_1 (s_ : List Int) : Option (List Int) :=
  slices_Values_int_int_1_l1 s_
def slices_Values_int_int (s_ : List Int) : Option (List Int) :=
  b1 (slices_Values_int_int_1 s_) fun l =>
  some l
def round_opened_l2 (walks : RwL) (k : Int) : Nat → Int → (List Int) → Option (List Int)
  | 0, _k2, c_walks4 =>
  some c_walks4
  | fu2 + 1, k2, c_walks4 =>
  gd (0 ≤ k ∧ k < 5) <|
  gd (0 ≤ k2 ∧ k2 < 5) <|
  ix c_walks4 (k * 5 + k2) fun _x =>
  bv (c_walks4.set (k * 5 + k2 : Int).toNat (-1)) fun ws =>
  b1 (if k < (walks.length : Int) then
  (some (decide (k2 < (walks.length : Int))))
  else
  (some false)) fun k3 =>
  if k3 = true then
  (ix walks k fun x2 =>
  ix x2 k2 fun x3 =>
  gd (0 ≤ k ∧ k < 5) <|
  gd (0 ≤ k2 ∧ k2 < 5) <|
  ix ws (k * 5 + k2) fun _x4 =>
  bv (ws.set (k * 5 + k2 : Int).toNat x3) fun ws2 =>
  round_opened_l2 walks k fu2 (k2 + 1) ws2)
  else
  (round_opened_l2 walks k fu2 (k2 + 1) ws)
def round_opened_l1 (walks : RwL) : Nat → Int → (List Int) → Option (List Int)
  | 0, _k, c_walks2 =>
  some c_walks2
  | fu1 + 1, k, c_walks2 =>
  b1 (gd (R64 0 ∧ R64 5) <|
  round_opened_l2 walks k (Int.toNat (5 - 0)) 0 c_walks2) fun c_walks3 =>
  round_opened_l1 walks fu1 (k + 1) c_walks3
def round_opened_l3 : Nat → (List Int) → (List Int) → Option (List Int)
  | 0, _, _ => none
  | fu3 + 1, c_walks6, next_ =>
  gd (∀ x_ ∈ next_, R64 x_) <|
  gd (∀ x_ ∈ c_walks6, R64 x_) <|
  if next_ ≠ c_walks6 then
  (b1 (round_walks_through next_) fun a2 =>
  round_opened_l3 fu3 next_ a2)
  else
  (some c_walks6)
def round_opened_l6 (k4 : Int) (c_pairs4 : List (Int × Int)) (x6 : Int) : RwL → Int → (List Int) → Option (List Int)
  | [], _k6, c_hit7 =>
  some c_hit7
  | x7 :: tl6, k6, c_hit7 =>
  b1 (slices_Contains_int_int x7 x6) fun ok =>
  if ok = true then
  (gd (0 ≤ k6 ∧ k6 < 5) <|
  gd (0 ≤ k4 ∧ k4 < 3) <|
  ix c_hit7 (k6 * 3 + k4) fun x8 =>
  gd ((0 ≤ ((c_pairs4.length : Int) : Int) ∧ ((c_pairs4.length : Int) : Int) < 64) ∧ R64 (shl 1 (c_pairs4.length : Int))) <|
  gd (0 ≤ k6 ∧ k6 < 5) <|
  gd (0 ≤ k4 ∧ k4 < 3) <|
  bv (c_hit7.set (k6 * 3 + k4 : Int).toNat (bor x8 (shl 1 (c_pairs4.length : Int)))) fun ws3 =>
  round_opened_l6 k4 c_pairs4 x6 tl6 (k6 + 1) ws3)
  else
  (round_opened_l6 k4 c_pairs4 x6 tl6 (k6 + 1) c_hit7)
def round_opened_l5 (hears : RwL) (k4 : Int) : List Int → (List (Int × Int)) → (List Int) → Option ((List (Int × Int)) × (List Int))
  | [], c_pairs4, c_hit4 =>
  some (c_pairs4, c_hit4)
  | x6 :: tl4, c_pairs4, c_hit4 =>
  b2 (b1 (round_opened_l6 k4 c_pairs4 x6 hears 0 c_hit4) fun c_hit6 =>
  ap c_pairs4 [(k4, x6)] fun c =>
  some (c, c_hit6)) fun c_pairs5 c_hit5 =>
  round_opened_l5 hears k4 tl4 c_pairs5 c_hit5
def round_opened_l4 (hears : RwL) : NtL → Int → (List (Int × Int)) → (List Int) → Option ((List (Int × Int)) × (List Int))
  | [], _k4, c_pairs2, c_hit2 =>
  some (c_pairs2, c_hit2)
  | x5 :: tl2, k4, c_pairs2, c_hit2 =>
  b2 (b1 (slices_Values_int_int x5.1) fun y =>
  b1 (slices_Sorted_int y) fun l =>
  round_opened_l5 hears k4 l c_pairs2 c_hit2) fun c_pairs3 c_hit3 =>
  round_opened_l4 hears tl2 (k4 + 1) c_pairs3 c_hit3
def round_opened (walks hears : RwL) (houses start : Int) (notices : NtL) : Option ((Option (RwL × RwL × Int × Int × NtL × (List Int) × (List (Int × Int)) × (List Int))) × Int) :=
  b1 (round_Check walks hears houses start notices) fun n =>
  if n ≠ 0 then
  (some (none, n))
  else
  (b1 (gd (R64 0 ∧ R64 5) <|
  round_opened_l1 walks (Int.toNat (5 - 0)) 0 (List.replicate 25 0)) fun c_walks =>
  b1 (b1 (round_walks_through c_walks) fun a =>
  round_opened_l3 FU c_walks a) fun c_walks5 =>
  b2 (round_opened_l4 hears notices 0 [] (List.replicate 15 0)) fun c_pairs c_hit =>
  some (some (walks, hears, houses, start, notices, c_walks5, c_pairs, c_hit), 0))
def round_crier_served_1_j2 (k : Int) (rec1 : Int → Option (List ((Int × Int) × Int))) : Option (List ((Int × Int) × Int)) :=
  rec1 (k + 1)
def round_crier_served_1_l3 (hit : List Int) (set_ k : Int) (rec1 : Int → Option (List ((Int × Int) × Int))) : NtL → Int → Option (List ((Int × Int) × Int))
  | [], _k2 =>
  round_crier_served_1_j2 k rec1
  | _x2 :: tl4, k2 =>
  gd (0 ≤ k ∧ k < 5) <|
  gd (0 ≤ k2 ∧ k2 < 3) <|
  ix hit (k * 3 + k2) fun x3 =>
  if (bandn set_ x3) ≠ set_ then
  (yl ((k, k2), bandn set_ x3) <|
  round_crier_served_1_l3 hit set_ k rec1 tl4 (k2 + 1))
  else
  (round_crier_served_1_l3 hit set_ k rec1 tl4 (k2 + 1))
def round_crier_served_1_l1 (notices : NtL) (hit : List Int) (set_ : Int) : RwL → Int → Option (List ((Int × Int) × Int))
  | [], _k =>
  some []
  | _x :: tl2, k =>
  round_crier_served_1_l3 hit set_ k (round_crier_served_1_l1 notices hit set_ tl2) notices 0
def round_crier_served_1 (_walks hears : RwL) (_houses _start : Int) (notices : NtL) (_walks2 : List Int) (_pairs : List (Int × Int)) (hit : List Int) (set_ : Int) : Option (List ((Int × Int) × Int)) :=
  round_crier_served_1_l1 notices hit set_ hears 0
def round_crier_served (walks hears : RwL) (houses start : Int) (notices : NtL) (walks2 : List Int) (pairs : List (Int × Int)) (hit : List Int) (set_ : Int) : Option (List ((Int × Int) × Int)) :=
  b1 (round_crier_served_1 walks hears houses start notices walks2 pairs hit set_) fun l =>
  some l
def slices_Reverse_round_Cry_round_Cry_l1 : Nat → (List (Int × Int)) → Int → Int → Option (List (Int × Int))
  | 0, _, _, _ => none
  | fu1 + 1, s_2, i, j =>
  if i < j then
  (ix s_2 j fun x =>
  ix s_2 i fun x2 =>
  bv (s_2.set (i : Int).toNat (x.1, x.2)) fun l =>
  ix l j fun _x3 =>
  bv (l.set (j : Int).toNat (x2.1, x2.2)) fun l2 =>
  gd (R64 (i + 1)) <|
  gd (R64 (j - 1)) <|
  slices_Reverse_round_Cry_round_Cry_l1 fu1 l2 (i + 1) (j - 1))
  else
  (some s_2)
def slices_Reverse_round_Cry_round_Cry (s_ : List (Int × Int)) : Option (List (Int × Int)) :=
  gd (R64 ((s_.length : Int) - 1)) <|
  slices_Reverse_round_Cry_round_Cry_l1 FU s_ 0 ((s_.length : Int) - 1)
def round_crier_serve_l3 (notices : NtL) (walks2 : List Int) (ok : (Int × Int) → Option Bool) (left_ : Int) (met5 : List ((Int × Int) × (Int × Int × Int × Int × Int))) (k : Int) : List ((Int × Int) × Int) → (List ((Int × Int) × (Int × Int × Int × Int × Int))) → Option (List ((Int × Int) × (Int × Int × Int × Int × Int)))
  | [], met7 =>
  some met7
  | x2 :: tl4, met7 =>
  gd (0 ≤ k ∧ k < 5) <|
  gd (0 ≤ x2.1.1 ∧ x2.1.1 < 5) <|
  ix walks2 (k * 5 + x2.1.1) fun x3 =>
  if x3 = (-1) then
  (round_crier_serve_l3 notices walks2 ok left_ met5 k tl4 met7)
  else
  (gd (R64 ((((mget met5 (k, left_)).getD (0, 0, 0, 0, 0)).1) + x3)) <|
  ix notices x2.1.2 fun x4 =>
  gd (R64 (((((mget met5 (k, left_)).getD (0, 0, 0, 0, 0)).1) + x3) + x4.2.1)) <|
  bv (((((mget met5 (k, left_)).getD (0, 0, 0, 0, 0)).1) + x3) + x4.2.1) fun end_ =>
  b1 (b1 (ok (x2.1.2, end_)) fun ok2 =>
  if ok2 = true then
  (if (!((mget met7 (x2.1.1, x2.2)).isSome)) = true then
  (some true)
  else
  (some (decide (end_ < (((mget met7 (x2.1.1, x2.2)).getD (0, 0, 0, 0, 0)).1)))))
  else
  (some false)) fun k2 =>
  if k2 = true then
  (bv (mput met7 (x2.1.1, x2.2) (end_, x2.1.1, x2.1.2, k, left_)) fun met8 =>
  round_crier_serve_l3 notices walks2 ok left_ met5 k tl4 met8)
  else
  (round_crier_serve_l3 notices walks2 ok left_ met5 k tl4 met7))
def round_crier_serve_l2 (walks hears : RwL) (houses start : Int) (notices : NtL) (walks2 : List Int) (pairs : List (Int × Int)) (hit : List Int) (ok : (Int × Int) → Option Bool) (left_ : Int) : RwL → Int → (List ((Int × Int) × (Int × Int × Int × Int × Int))) → Option (List ((Int × Int) × (Int × Int × Int × Int × Int)))
  | [], _k, met5 =>
  some met5
  | _x :: tl2, k, met5 =>
  b1 (if (!((mget met5 (k, left_)).isSome)) = true then
  (some met5)
  else
  (b1 (round_crier_served walks hears houses start notices walks2 pairs hit left_) fun y =>
  round_crier_serve_l3 notices walks2 ok left_ met5 k y met5)) fun met6 =>
  round_crier_serve_l2 walks hears houses start notices walks2 pairs hit ok left_ tl2 (k + 1) met6
def round_crier_serve_l1 (walks hears : RwL) (houses start : Int) (notices : NtL) (walks2 : List Int) (pairs : List (Int × Int)) (hit : List Int) (set_ : Int) (ok : (Int × Int) → Option Bool) : Nat → (List ((Int × Int) × (Int × Int × Int × Int × Int))) → Int → Option (List ((Int × Int) × (Int × Int × Int × Int × Int)))
  | 0, _, _ => none
  | fu1 + 1, met3, left_ =>
  if 0 < left_ then
  (b1 (if (bandn left_ set_) ≠ 0 then
  (some met3)
  else
  (round_crier_serve_l2 walks hears houses start notices walks2 pairs hit ok left_ hears 0 met3)) fun met4 =>
  gd (R64 (left_ - 1)) <|
  round_crier_serve_l1 walks hears houses start notices walks2 pairs hit set_ ok fu1 met4 (left_ - 1))
  else
  (some met3)
def round_crier_serve_l4 (met2 : List ((Int × Int) × (Int × Int × Int × Int × Int))) : RwL → Int → Int → Int → Option (Int × Int)
  | [], _k3, end_stand2, minute2 =>
  some (end_stand2, minute2)
  | _x5 :: tl6, k3, end_stand2, minute2 =>
  b1 (if ((mget met2 (k3, 0)).isSome) = true then
  (if minute2 = (-1) then
  (some true)
  else
  (some (decide ((((mget met2 (k3, 0)).getD (0, 0, 0, 0, 0)).1) < minute2))))
  else
  (some false)) fun k4 =>
  if k4 = true then
  (bv (((mget met2 (k3, 0)).getD (0, 0, 0, 0, 0)).1) fun minute3 =>
  round_crier_serve_l4 met2 tl6 (k3 + 1) k3 minute3)
  else
  (round_crier_serve_l4 met2 tl6 (k3 + 1) end_stand2 minute2)
def round_crier_serve_l5 (set_ : Int) (met2 : List ((Int × Int) × (Int × Int × Int × Int × Int))) : Nat → Int → Int → (List (Int × Int)) → Option (List (Int × Int))
  | 0, _, _, _ => none
  | fu5 + 1, end_stand3, end_left, out2 =>
  if end_left ≠ set_ then
  (ap out2 [(((mget met2 (end_stand3, end_left)).getD (0, 0, 0, 0, 0)).2.1, ((mget met2 (end_stand3, end_left)).getD (0, 0, 0, 0, 0)).2.2.1)] fun out3 =>
  round_crier_serve_l5 set_ met2 fu5 (((mget met2 (end_stand3, end_left)).getD (0, 0, 0, 0, 0)).2.2.2.1) (((mget met2 (end_stand3, end_left)).getD (0, 0, 0, 0, 0)).2.2.2.2) out3)
  else
  (some out2)
def round_crier_serve (walks hears : RwL) (houses start : Int) (notices : NtL) (walks2 : List Int) (pairs : List (Int × Int)) (hit : List Int) (set_ : Int) (ok : (Int × Int) → Option Bool) : Option ((List (Int × Int)) × Int × Bool) :=
  bv (mput [] (start, set_) (0, 0, 0, 0, 0)) fun met =>
  b1 (round_crier_serve_l1 walks hears houses start notices walks2 pairs hit set_ ok FU met set_) fun met2 =>
  b2 (round_crier_serve_l4 met2 hears 0 (-1) (-1)) fun end_stand minute =>
  if minute = (-1) then
  (some ([], 0, false))
  else
  (b1 (round_crier_serve_l5 set_ met2 FU end_stand 0 []) fun out =>
  b1 (slices_Reverse_round_Cry_round_Cry out) fun s_ =>
  some (s_, minute, true))
def round_crier_all (_walks _hears : RwL) (_houses _start : Int) (_notices : NtL) (_walks2 : List Int) (pairs : List (Int × Int)) (_hit : List Int) : Option Int :=
  gd ((0 ≤ ((pairs.length : Int) : Int) ∧ ((pairs.length : Int) : Int) < 64) ∧ R64 (shl 1 (pairs.length : Int))) <|
  gd (R64 ((shl 1 (pairs.length : Int)) - 1)) <|
  some ((shl 1 (pairs.length : Int)) - 1)
def round_crier_by_1 (notice minute last : Int) (_walks _hears : RwL) (_houses _start : Int) (notices : NtL) (_walks2 : List Int) (_pairs : List (Int × Int)) (_hit : List Int) : Option Bool :=
  ix notices notice fun x =>
  some (decide (minute ≤ (if x.2.2 < last then x.2.2 else last)))
def round_crier_by (walks hears : RwL) (houses start : Int) (notices : NtL) (walks2 : List Int) (pairs : List (Int × Int)) (hit : List Int) (last : Int) : Option ((Int × Int) → Option Bool) :=
  some (fun xx_ : Int × Int => round_crier_by_1 xx_.1 xx_.2 last walks hears houses start notices walks2 pairs hit)
def round_crier_hours (walks hears : RwL) (houses start : Int) (notices : NtL) (walks2 : List Int) (pairs : List (Int × Int)) (hit : List Int) : Option ((Int × Int) → Option Bool) :=
  b1 (round_crier_by walks hears houses start notices walks2 pairs hit 200) fun y =>
  some y
def round_Best (walks hears : RwL) (houses start : Int) (notices : NtL) : Option ((List (Int × Int)) × Int × Int) :=
  b2 (round_opened walks hears houses start notices) fun d n =>
  if n ≠ 0 then
  (some ([], 0, n))
  else
  (b8 d fun walks2 hears2 houses2 start2 notices2 walks3 pairs hit =>
  b1 (round_crier_all walks2 hears2 houses2 start2 notices2 walks3 pairs hit) fun n2 =>
  b1 (round_crier_hours walks2 hears2 houses2 start2 notices2 walks3 pairs hit) fun y =>
  b3 (round_crier_serve walks2 hears2 houses2 start2 notices2 walks3 pairs hit n2 y) fun l n3 ok =>
  if (!ok) = true then
  (some ([], 0, 6))
  else
  (some (l, n3, 0)))
def book_in (n lo hi : Int) : Option Bool :=
  if lo ≤ n then
  (some (decide (n ≤ hi)))
  else
  (some false)
def book_Book_house (houses _notices : Int) (_hears : HsL) (_readings : List Int) (_cries : CsL) (h : Int) : Option Bool :=
  gd (R64 (houses - 1)) <|
  b1 (book_in h 0 (houses - 1)) fun ok =>
  some ok
def book_Book_listed_j1 : Option Int :=
  some 0
def book_Book_listed_l2 (houses notices : Int) (hears : HsL) (readings : List Int) (cries : CsL) (l : List Int) : List Int → Int → Option Int
  | [], _k =>
  book_Book_listed_j1
  | x :: tl2, k =>
  b1 (book_Book_house houses notices hears readings cries x) fun ok =>
  if (!ok) = true then
  (some 1)
  else
  (gd ((0 ≤ (0 : Int) ∧ (0 : Int) ≤ k) ∧ k ≤ l.length) <|
  bv (sl l 0 k) fun l2 =>
  b1 (slices_Contains_int_int l2 x) fun ok2 =>
  if ok2 = true then
  (some 5)
  else
  (book_Book_listed_l2 houses notices hears readings cries l tl2 (k + 1)))
def book_Book_listed (houses notices : Int) (hears : HsL) (readings : List Int) (cries : CsL) (l : List Int) : Option Int :=
  book_Book_listed_l2 houses notices hears readings cries l l 0
def slices_IndexFunc_int_int__j1 : Option Int :=
  some (-1)
def slices_IndexFunc_int_int__l2 (f : Int → Option Bool) : List Int → Int → Option Int
  | [], _k =>
  slices_IndexFunc_int_int__j1
  | x :: tl2, k =>
  b1 (f x) fun ok =>
  if ok = true then
  (some k)
  else
  (slices_IndexFunc_int_int__l2 f tl2 (k + 1))
def slices_IndexFunc_int_int_ (s_ : List Int) (f : Int → Option Bool) : Option Int :=
  slices_IndexFunc_int_int__l2 f s_ 0
def slices_ContainsFunc_int_int_ (s_ : List Int) (f : Int → Option Bool) : Option Bool :=
  b1 (slices_IndexFunc_int_int_ s_ f) fun n =>
  some (decide (0 ≤ n))
def book_every_int_1 (x : Int) (so : Int → Option Bool) : Option Bool :=
  b1 (so x) fun ok =>
  some (!ok)
def book_every_int (l : List Int) (so : Int → Option Bool) : Option Bool :=
  b1 (slices_ContainsFunc_int_int_ l (fun xx_ : Int => book_every_int_1 xx_ so)) fun ok =>
  some (!ok)
def slices_IndexFunc_int_int___j1 : Option Int :=
  some (-1)
def slices_IndexFunc_int_int___l2 (f : RwL → Option Bool) : HsL → Int → Option Int
  | [], _k =>
  slices_IndexFunc_int_int___j1
  | x :: tl2, k =>
  b1 (f x) fun ok =>
  if ok = true then
  (some k)
  else
  (slices_IndexFunc_int_int___l2 f tl2 (k + 1))
def slices_IndexFunc_int_int__ (s_ : HsL) (f : RwL → Option Bool) : Option Int :=
  slices_IndexFunc_int_int___l2 f s_ 0
def slices_ContainsFunc_int_int__ (s_ : HsL) (f : RwL → Option Bool) : Option Bool :=
  b1 (slices_IndexFunc_int_int__ s_ f) fun n =>
  some (decide (0 ≤ n))
def book_every_int_1_ (x : RwL) (so : RwL → Option Bool) : Option Bool :=
  b1 (so x) fun ok =>
  some (!ok)
def book_every_int_ (l : HsL) (so : RwL → Option Bool) : Option Bool :=
  b1 (slices_ContainsFunc_int_int__ l (fun xx_ : RwL => book_every_int_1_ xx_ so)) fun ok =>
  some (!ok)
def book_Book_counted_1 (l : RwL) : Option Bool :=
  some (decide ((l.length : Int) = 8))
def book_Book_counted (houses notices : Int) (hears : HsL) (readings : List Int) (cries : CsL) : Option Bool :=
  b1 (book_in houses 1 6) fun ok =>
  if ok = true then
  (b1 (book_in notices 1 4) fun ok2 =>
  if ok2 = true then
  (b1 (book_in (hears.length : Int) 1 4) fun ok3 =>
  if ok3 = true then
  (b1 (book_in (readings.length : Int) 1 8) fun ok4 =>
  if ok4 = true then
  (if (cries.length : Int) ≤ 12 then
  (b1 (book_every_int_ hears (fun xx_ : RwL => book_Book_counted_1 xx_)) fun ok5 =>
  some ok5)
  else
  (some false))
  else
  (some false))
  else
  (some false))
  else
  (some false))
  else
  (some false)
def book_read (n : Int) : Option Bool :=
  if n = (-1) then
  (some true)
  else
  (b1 (book_in n 0 7) fun ok =>
  some ok)
def slices_IndexFunc_book_Cry_book_Cry_j1 : Option Int :=
  some (-1)
def slices_IndexFunc_book_Cry_book_Cry_l2 (f : (Int × Int × Int) → Option Bool) : CsL → Int → Option Int
  | [], _k =>
  slices_IndexFunc_book_Cry_book_Cry_j1
  | x :: tl2, k =>
  b1 (f (x.1, x.2.1, x.2.2)) fun ok =>
  if ok = true then
  (some k)
  else
  (slices_IndexFunc_book_Cry_book_Cry_l2 f tl2 (k + 1))
def slices_IndexFunc_book_Cry_book_Cry (s_ : CsL) (f : (Int × Int × Int) → Option Bool) : Option Int :=
  slices_IndexFunc_book_Cry_book_Cry_l2 f s_ 0
def slices_ContainsFunc_book_Cry_book_Cry (s_ : CsL) (f : (Int × Int × Int) → Option Bool) : Option Bool :=
  b1 (slices_IndexFunc_book_Cry_book_Cry s_ f) fun n =>
  some (decide (0 ≤ n))
def book_every_Cry_1 (hour stand notice : Int) (so : (Int × Int × Int) → Option Bool) : Option Bool :=
  b1 (so (hour, stand, notice)) fun ok =>
  some (!ok)
def book_every_Cry (l : CsL) (so : (Int × Int × Int) → Option Bool) : Option Bool :=
  b1 (slices_ContainsFunc_book_Cry_book_Cry l (fun xx_ : (Int × Int × Int) => book_every_Cry_1 xx_.1 xx_.2.1 xx_.2.2 so)) fun ok =>
  some (!ok)
def book_Book_notice (_houses notices : Int) (_hears : HsL) (_readings : List Int) (_cries : CsL) (n : Int) : Option Bool :=
  gd (R64 (notices - 1)) <|
  b1 (book_in n 0 (notices - 1)) fun ok =>
  some ok
def book_Book_hour (_houses _notices : Int) (_hears : HsL) (readings : List Int) (_cries : CsL) (h : Int) : Option Bool :=
  gd (R64 ((readings.length : Int) - 1)) <|
  b1 (book_in h 0 ((readings.length : Int) - 1)) fun ok =>
  some ok
def book_Check_1 (hour stand notice houses notices : Int) (hears : HsL) (readings : List Int) (cries : CsL) : Option Bool :=
  b1 (book_Book_hour houses notices hears readings cries hour) fun ok =>
  if ok = true then
  (gd (R64 ((hears.length : Int) - 1)) <|
  b1 (book_in stand 0 ((hears.length : Int) - 1)) fun ok2 =>
  if ok2 = true then
  (b1 (book_Book_notice houses notices hears readings cries notice) fun ok3 =>
  some ok3)
  else
  (some false))
  else
  (some false)
def book_Check_j3 (rec2 : Option Int) : Option Int :=
  rec2
def book_Check_l4 (houses notices : Int) (hears : HsL) (readings : List Int) (cries : CsL) (rec2 : Option Int) : RwL → Option Int
  | [] =>
  book_Check_j3 rec2
  | x2 :: tl4 =>
  b1 (book_Book_listed houses notices hears readings cries x2) fun n =>
  if n ≠ 0 then
  (some n)
  else
  (book_Check_l4 houses notices hears readings cries rec2 tl4)
def book_Check_j1 (houses notices : Int) (hears : HsL) (readings : List Int) (cries : CsL) : Option Int :=
  b1 (book_every_int readings (fun xx_ : Int => book_read xx_)) fun ok2 =>
  if (!ok2) = true then
  (some 3)
  else
  (b1 (book_every_Cry cries (fun xx_ : (Int × Int × Int) => book_Check_1 xx_.1 xx_.2.1 xx_.2.2 houses notices hears readings cries)) fun ok3 =>
  if (!ok3) = true then
  (some 1)
  else
  (some 0))
def book_Check_l2 (houses notices : Int) (hears : HsL) (readings : List Int) (cries : CsL) : HsL → Option Int
  | [] =>
  book_Check_j1 houses notices hears readings cries
  | x :: tl2 =>
  book_Check_l4 houses notices hears readings cries (book_Check_l2 houses notices hears readings cries tl2) x
def book_Check (houses notices : Int) (hears : HsL) (readings : List Int) (cries : CsL) : Option Int :=
  b1 (book_Book_counted houses notices hears readings cries) fun ok =>
  if (!ok) = true then
  (some 2)
  else
  (book_Check_l2 houses notices hears readings cries hears)
def book_opened (houses notices : Int) (hears : HsL) (readings : List Int) (cries : CsL) : Option ((Option (Int × Int × HsL × (List Int) × CsL)) × Int) :=
  b1 (book_Check houses notices hears readings cries) fun n =>
  if n ≠ 0 then
  (some (none, n))
  else
  (some (some (houses, notices, hears, readings, cries), 0))
def book_least_l1 : List Int → Int → Option Int
  | [], n3 =>
  some n3
  | x :: tl2, n3 =>
  book_least_l1 tl2 (if x < n3 then x else n3)
def book_least (n : Int) (more : List Int) : Option Int :=
  b1 (book_least_l1 more n) fun n2 =>
  some n2
def book_near (a b : Int) : Option Bool :=
  gd (R64 (a - b)) <|
  gd (R64 ((a - b) + 8)) <|
  gd (R64 (8 - (Int.tmod ((a - b) + 8) 8))) <|
  b1 (book_least (Int.tmod ((a - b) + 8) 8) [8 - (Int.tmod ((a - b) + 8) 8)]) fun n =>
  some (decide (n ≤ 1))
def book_Book_can (_houses _notices : Int) (_hears : HsL) (readings : List Int) (_cries : CsL) (hour wind : Int) : Option Bool :=
  ix readings hour fun x =>
  if x = (-1) then
  (some true)
  else
  (b1 (book_near wind x) fun ok =>
  some ok)
def slices_Clone_int_int (s_ : List Int) : Option (List Int) :=
  nilIf (s_ = []) (some []) (ap ([] : List Int) s_ fun l =>
  some l)
def book_desk_hear_l2 (x : Int × Int × Int) : List Int → (List Bool) → Option (List Bool)
  | [], g5 =>
  some g5
  | x4 :: tl4, g5 =>
  gd (0 ≤ x4 ∧ x4 < 6) <|
  gd (0 ≤ x.2.2 ∧ x.2.2 < 4) <|
  ix g5 (x4 * 4 + x.2.2) fun _x5 =>
  bv (g5.set (x4 * 4 + x.2.2 : Int).toNat true) fun l =>
  book_desk_hear_l2 x tl4 l
def book_desk_hear_l1 (hears : HsL) (hour wind : Int) : CsL → (List Bool) → Option (List Bool)
  | [], g3 =>
  some g3
  | x :: tl2, g3 =>
  b1 (if x.1 ≠ hour then
  (some g3)
  else
  (ix hears x.2.1 fun x2 =>
  ix x2 wind fun x3 =>
  book_desk_hear_l2 x x3 g3)) fun g4 =>
  book_desk_hear_l1 hears hour wind tl2 g4
def book_desk_hear (_houses _notices : Int) (hears : HsL) (_readings : List Int) (cries : CsL) (g : List Bool) (hour wind : Int) : Option (List Bool) :=
  b1 (book_desk_hear_l1 hears hour wind cries g) fun g2 =>
  some g2
def book_turned_1_l1 (wind : Int) : Nat → Int → Option (List Int)
  | 0, _k =>
  some []
  | fu1 + 1, k =>
  b1 (book_near k wind) fun ok =>
  if ok = true then
  (yl k <|
  book_turned_1_l1 wind fu1 (k + 1))
  else
  (book_turned_1_l1 wind fu1 (k + 1))
def book_turned_1 (wind : Int) : Option (List Int) :=
  gd (R64 0 ∧ R64 8) <|
  book_turned_1_l1 wind (Int.toNat (8 - 0)) 0
def book_turned (wind : Int) : Option (List Int) :=
  b1 (book_turned_1 wind) fun l =>
  some l
def slices_IndexFunc_book_ending_book_ending_j1 : Option Int :=
  some (-1)
def slices_IndexFunc_book_ending_book_ending_l2 (f : ((List Bool) × (List Int)) → Option Bool) : List ((List Bool) × (List Int)) → Int → Option Int
  | [], _k =>
  slices_IndexFunc_book_ending_book_ending_j1
  | x :: tl2, k =>
  b1 (f (x.1, x.2)) fun ok =>
  if ok = true then
  (some k)
  else
  (slices_IndexFunc_book_ending_book_ending_l2 f tl2 (k + 1))
def slices_IndexFunc_book_ending_book_ending (s_ : List ((List Bool) × (List Int))) (f : ((List Bool) × (List Int)) → Option Bool) : Option Int :=
  slices_IndexFunc_book_ending_book_ending_l2 f s_ 0
def slices_ContainsFunc_book_ending_book_ending (s_ : List ((List Bool) × (List Int))) (f : ((List Bool) × (List Int)) → Option Bool) : Option Bool :=
  b1 (slices_IndexFunc_book_ending_book_ending s_ f) fun n =>
  some (decide (0 ≤ n))
def book_desk_endings_1 (_wind : Int) (got : List Bool) (course : List Int) (wind2 : Int) (x : (Int × Int) → Option Bool) (x2 houses notices : Int) (hears : HsL) (readings : List Int) (cries : CsL) (x3 : List ((Int × (List Bool)) × Bool)) (next_ : List (Int × (List Bool) × (List Int))) : Option ((List ((Int × (List Bool)) × Bool)) × (List (Int × (List Bool) × (List Int)))) :=
  b1 (x (x2, wind2)) fun ok =>
  if (!ok) = true then
  (some (x3, next_))
  else
  (b1 (book_desk_hear houses notices hears readings cries got x2 wind2) fun a =>
  gd (R64 wind2) <|
  if (!((mget x3 (wind2, a)).getD false)) = true then
  (gd (R64 wind2) <|
  bv (mput x3 (wind2, a) true) fun met =>
  b1 (slices_Clone_int_int course) fun l =>
  ap l [wind2] fun l2 =>
  ap next_ [(wind2, a, l2)] fun l3 =>
  some (met, l3))
  else
  (some (x3, next_)))
def book_desk_endings_2 (got : List Bool) (_course : List Int) (_wind : Int) (got2 : List Bool) (_course2 : List Int) : Option Bool :=
  some (decide (got = got2))
def book_desk_endings_l2 (houses notices : Int) (hears : HsL) (readings : List Int) (cries : CsL) (k : Int) : Nat → Int → (List (Int × (List Bool) × (List Int))) → (List ((Int × (List Bool)) × Bool)) → Option ((List (Int × (List Bool) × (List Int))) × (List ((Int × (List Bool)) × Bool)))
  | 0, _k2, next_5, m2 =>
  some (next_5, m2)
  | fu2 + 1, k2, next_5, m2 =>
  b2 (book_desk_endings_1 0 (List.replicate 24 false) [] k2 (fun xx_ : Int × Int => book_Book_can houses notices hears readings cries xx_.1 xx_.2) k houses notices hears readings cries m2 next_5) fun x2 next_6 =>
  book_desk_endings_l2 houses notices hears readings cries k fu2 (k2 + 1) next_6 x2
def book_desk_endings_l4 (houses notices : Int) (hears : HsL) (readings : List Int) (cries : CsL) (k : Int) (x3 : Int × (List Bool) × (List Int)) : List Int → (List (Int × (List Bool) × (List Int))) → (List ((Int × (List Bool)) × Bool)) → Option ((List (Int × (List Bool) × (List Int))) × (List ((Int × (List Bool)) × Bool)))
  | [], next_10, m5 =>
  some (next_10, m5)
  | x4 :: tl6, next_10, m5 =>
  b2 (book_desk_endings_1 x3.1 x3.2.1 x3.2.2 x4 (fun xx_ : Int × Int => book_Book_can houses notices hears readings cries xx_.1 xx_.2) k houses notices hears readings cries m5 next_10) fun x5 next_11 =>
  book_desk_endings_l4 houses notices hears readings cries k x3 tl6 next_11 x5
def book_desk_endings_l3 (houses notices : Int) (hears : HsL) (readings : List Int) (cries : CsL) (k : Int) : List (Int × (List Bool) × (List Int)) → (List (Int × (List Bool) × (List Int))) → (List ((Int × (List Bool)) × Bool)) → Option (List (Int × (List Bool) × (List Int)))
  | [], next_8, _m3 =>
  some next_8
  | x3 :: tl4, next_8, m3 =>
  b2 (b1 (book_turned x3.1) fun y =>
  book_desk_endings_l4 houses notices hears readings cries k x3 y next_8 m3) fun next_9 m4 =>
  book_desk_endings_l3 houses notices hears readings cries k tl4 next_9 m4
def book_desk_endings_l1 (houses notices : Int) (hears : HsL) (readings : List Int) (cries : CsL) : List Int → Int → (List (Int × (List Bool) × (List Int))) → Option (List (Int × (List Bool) × (List Int)))
  | [], _k, now2 =>
  some now2
  | _x :: tl2, k, now2 =>
  b1 (b2 (if k = 0 then
  (gd (R64 0 ∧ R64 8) <|
  book_desk_endings_l2 houses notices hears readings cries k (Int.toNat (8 - 0)) 0 [] [])
  else
  (some ([], []))) fun next_4 m =>
  b1 (book_desk_endings_l3 houses notices hears readings cries k now2 next_4 m) fun next_7 =>
  some next_7) fun now3 =>
  book_desk_endings_l1 houses notices hears readings cries tl2 (k + 1) now3
def book_desk_endings_l5 : List (Int × (List Bool) × (List Int)) → (List ((List Bool) × (List Int))) → Option (List ((List Bool) × (List Int)))
  | [], out2 =>
  some out2
  | x6 :: tl8, out2 =>
  b1 (slices_ContainsFunc_book_ending_book_ending out2 (fun xx_ : ((List Bool) × (List Int)) => book_desk_endings_2 xx_.1 xx_.2 x6.1 x6.2.1 x6.2.2)) fun ok =>
  if (!ok) = true then
  (ap out2 [(x6.2.1, x6.2.2)] fun out3 =>
  book_desk_endings_l5 tl8 out3)
  else
  (book_desk_endings_l5 tl8 out2)
def book_desk_endings (houses notices : Int) (hears : HsL) (readings : List Int) (cries : CsL) : Option (List ((List Bool) × (List Int))) :=
  b1 (book_desk_endings_l1 houses notices hears readings cries readings 0 []) fun now =>
  b1 (book_desk_endings_l5 now []) fun out =>
  some out
def book_told (houses notices : Int) (hears : HsL) (readings : List Int) (cries : CsL) : Option ((Option (Int × Int × HsL × (List Int) × CsL)) × (List ((List Bool) × (List Int))) × Int) :=
  b2 (book_opened houses notices hears readings cries) fun d n =>
  if n ≠ 0 then
  (some (none, [], n))
  else
  (b5 d fun houses2 notices2 hears2 readings2 cries2 =>
  b1 (book_desk_endings houses2 notices2 hears2 readings2 cries2) fun l =>
  if (l.length : Int) = 0 then
  (some (none, [], 7))
  else
  (some (some (houses2, notices2, hears2, readings2, cries2), l, 0)))
def book_Verdicts_l3 (k k2 : Int) : List ((List Bool) × (List Int)) → Int → Option Int
  | [], many2 =>
  some many2
  | x :: tl2, many2 =>
  gd (0 ≤ k ∧ k < 6) <|
  gd (0 ≤ k2 ∧ k2 < 4) <|
  ix x.1 (k * 4 + k2) fun x2 =>
  if x2 = true then
  (gd (R64 (many2 + 1)) <|
  book_Verdicts_l3 k k2 tl2 (many2 + 1))
  else
  (book_Verdicts_l3 k k2 tl2 many2)
def book_Verdicts_l2 (l : List ((List Bool) × (List Int))) (k : Int) : Nat → Int → RwL → Option RwL
  | 0, _k2, out4 =>
  some out4
  | fu2 + 1, k2, out4 =>
  b1 (b1 (book_Verdicts_l3 k k2 l 0) fun many =>
  b1 (if many = (l.length : Int) then
  (some 1)
  else
  (if many = 0 then
  (some 2)
  else
  (some 0))) fun v =>
  ix out4 k fun x3 =>
  ap x3 [v] fun l3 =>
  bv (out4.set (k : Int).toNat l3) fun out6 =>
  some out6) fun out5 =>
  book_Verdicts_l2 l k fu2 (k2 + 1) out5
def book_Verdicts_l1 (notices : Int) (l : List ((List Bool) × (List Int))) : Nat → Int → RwL → Option RwL
  | 0, _k, out2 =>
  some out2
  | fu1 + 1, k, out2 =>
  b1 (gd (R64 0 ∧ R64 notices) <|
  book_Verdicts_l2 l k (Int.toNat (notices - 0)) 0 out2) fun out3 =>
  book_Verdicts_l1 notices l fu1 (k + 1) out3
def book_Verdicts (houses notices : Int) (hears : HsL) (readings : List Int) (cries : CsL) : Option (RwL × Int) :=
  b3 (book_told houses notices hears readings cries) fun _d l n =>
  if n ≠ 0 then
  (some ([], n))
  else
  (gd (0 ≤ houses ∧ houses ≤ 1048576) <|
  bv (List.replicate (houses : Int).toNat [] : RwL) fun l2 =>
  b1 (gd (R64 0 ∧ R64 (l2.length : Int)) <|
  book_Verdicts_l1 notices l (Int.toNat ((l2.length : Int) - 0)) 0 l2) fun out =>
  some (out, 0))
def book_Complaint_error (house notice : Int) (_heard : Bool) (houses notices : Int) (hears : HsL) (readings : List Int) (cries : CsL) : Option Int :=
  b1 (b1 (book_Book_house houses notices hears readings cries house) fun ok =>
  if (!ok) = true then
  (some true)
  else
  (b1 (book_Book_notice houses notices hears readings cries notice) fun ok2 =>
  some (!ok2))) fun k =>
  if k = true then
  (some 1)
  else
  (some 0)
def book_complained_j1 : Option Int :=
  some 0
def book_complained_l2 (houses notices : Int) (hears : HsL) (readings : List Int) (cries : CsL) : List (Int × Int × Bool) → Option Int
  | [] =>
  book_complained_j1
  | x :: tl2 =>
  b1 (book_Complaint_error x.1 x.2.1 x.2.2 houses notices hears readings cries) fun n2 =>
  if n2 ≠ 0 then
  (some n2)
  else
  (book_complained_l2 houses notices hears readings cries tl2)
def book_complained (houses notices : Int) (hears : HsL) (readings : List Int) (cries : CsL) (l : List (Int × Int × Bool)) : Option Int :=
  b1 (book_Check houses notices hears readings cries) fun n =>
  if n ≠ 0 then
  (some n)
  else
  (if 8 < (l.length : Int) then
  (some 2)
  else
  (book_complained_l2 houses notices hears readings cries l))
def book_heard (houses notices : Int) (hears : HsL) (readings : List Int) (cries : CsL) (complaints : List (Int × Int × Bool)) : Option ((List ((List Bool) × (List Int))) × Int) :=
  b1 (book_complained houses notices hears readings cries complaints) fun n =>
  if n ≠ 0 then
  (some ([], n))
  else
  (b3 (book_told houses notices hears readings cries) fun _d l n2 =>
  some (l, n2))
def book_goal_find_j1 : Option (List Int) :=
  some []
def book_goal_find_l2 (met : (List Bool) → Option Bool) : List ((List Bool) × (List Int)) → Option (List Int)
  | [] =>
  book_goal_find_j1
  | x :: tl2 =>
  b1 (met x.1) fun ok =>
  if ok = true then
  (gd (x.2 ≠ []) <|
  some x.2)
  else
  (book_goal_find_l2 met tl2)
def book_goal_find (met : (List Bool) → Option Bool) (l : List ((List Bool) × (List Int))) : Option (List Int) :=
  book_goal_find_l2 met l
def book_Complaint_is (house notice : Int) (heard : Bool) (g : List Bool) : Option Bool :=
  gd (0 ≤ house ∧ house < 6) <|
  gd (0 ≤ notice ∧ notice < 4) <|
  ix g (house * 4 + notice) fun x =>
  some (decide (x = heard))
def book_wrong_l1 (g : List Bool) : List (Int × Int × Bool) → Int → (List Int) → Option (List Int)
  | [], _k, out2 =>
  some out2
  | x :: tl2, k, out2 =>
  b1 (book_Complaint_is x.1 x.2.1 x.2.2 g) fun ok =>
  if (!ok) = true then
  (ap out2 [k] fun out3 =>
  book_wrong_l1 g tl2 (k + 1) out3)
  else
  (book_wrong_l1 g tl2 (k + 1) out2)
def book_wrong (complaints : List (Int × Int × Bool)) (g : List Bool) : Option (List Int) :=
  b1 (book_wrong_l1 g complaints 0 []) fun out =>
  some out
def book_Together_1 (g : List Bool) (complaints : List (Int × Int × Bool)) : Option Bool :=
  b1 (book_wrong complaints g) fun l =>
  some (decide ((l.length : Int) = 0))
def book_Together (houses notices : Int) (hears : HsL) (readings : List Int) (cries : CsL) (complaints : List (Int × Int × Bool)) : Option ((List Int) × Int) :=
  b2 (book_heard houses notices hears readings cries complaints) fun l n =>
  if n ≠ 0 then
  (some ([], n))
  else
  (b1 (book_goal_find (fun xx_ : (List Bool) => book_Together_1 xx_ complaints) l) fun l2 =>
  if l2 = [] then
  (some ([], 6))
  else
  (some (l2, 0)))
def book_Witness (houses notices : Int) (hears : HsL) (readings : List Int) (cries : CsL) (house notice : Int) (heard : Bool) : Option ((List Int) × Int) :=
  b2 (book_Together houses notices hears readings cries [(house, notice, heard)]) fun l n =>
  some (l, n)
def book_Refuted (houses notices : Int) (hears : HsL) (readings : List Int) (cries : CsL) (house notice : Int) (heard : Bool) : Option (Bool × Int) :=
  b2 (book_Witness houses notices hears readings cries house notice heard) fun _l n =>
  if n = 0 then
  (some (false, 0))
  else
  (if n = 6 then
  (some (true, 0))
  else
  (some (false, n)))
def book_desk_ways_l3 (k k2 : Int) : List Int → RwL → Option RwL
  | [], out6 =>
  some out6
  | x3 :: tl2, out6 =>
  ix out6 k fun x4 =>
  ix x4 k2 fun x5 =>
  gd (R64 (k - 1)) <|
  ix out6 (k - 1) fun x6 =>
  ix x6 x3 fun x7 =>
  gd (R64 (x5 + x7)) <|
  bv (out6.set (k : Int).toNat (x4.set (k2 : Int).toNat (x5 + x7))) fun l3 =>
  book_desk_ways_l3 k k2 tl2 l3
def book_desk_ways_l2 (houses notices : Int) (hears : HsL) (readings : List Int) (cries : CsL) (k : Int) : Nat → Int → RwL → Option RwL
  | 0, _k2, out4 =>
  some out4
  | fu2 + 1, k2, out4 =>
  b1 (b1 (book_Book_can houses notices hears readings cries k k2) fun ok =>
  if (!ok) = true then
  (some out4)
  else
  (if k = 0 then
  (ix out4 k fun x =>
  ix x k2 fun _x2 =>
  bv (out4.set (k : Int).toNat (x.set (k2 : Int).toNat 1)) fun l2 =>
  some l2)
  else
  (b1 (book_turned k2) fun y =>
  book_desk_ways_l3 k k2 y out4))) fun out5 =>
  book_desk_ways_l2 houses notices hears readings cries k fu2 (k2 + 1) out5
def book_desk_ways_l1 (houses notices : Int) (hears : HsL) (readings : List Int) (cries : CsL) : Nat → Int → RwL → Option RwL
  | 0, _k, out2 =>
  some out2
  | fu1 + 1, k, out2 =>
  b1 (gd (R64 0 ∧ R64 8) <|
  book_desk_ways_l2 houses notices hears readings cries k (Int.toNat (8 - 0)) 0 out2) fun out3 =>
  book_desk_ways_l1 houses notices hears readings cries fu1 (k + 1) out3
def book_desk_ways (houses notices : Int) (hears : HsL) (readings : List Int) (cries : CsL) : Option RwL :=
  gd (0 ≤ (readings.length : Int) ∧ (readings.length : Int) ≤ 1048576) <|
  bv (List.replicate ((readings.length : Int) : Int).toNat (List.replicate 8 0) : RwL) fun l =>
  b1 (gd (R64 0 ∧ R64 (l.length : Int)) <|
  book_desk_ways_l1 houses notices hears readings cries (Int.toNat ((l.length : Int) - 0)) 0 l) fun out =>
  some out
def slices_Reverse_int_int_l1 : Nat → (List Int) → Int → Int → Option (List Int)
  | 0, _, _, _ => none
  | fu1 + 1, s_2, i, j =>
  if i < j then
  (ix s_2 j fun x =>
  ix s_2 i fun x2 =>
  bv (s_2.set (i : Int).toNat x) fun l =>
  ix l j fun _x3 =>
  bv (l.set (j : Int).toNat x2) fun l2 =>
  gd (R64 (i + 1)) <|
  gd (R64 (j - 1)) <|
  slices_Reverse_int_int_l1 fu1 l2 (i + 1) (j - 1))
  else
  (some s_2)
def slices_Reverse_int_int (s_ : List Int) : Option (List Int) :=
  gd (R64 ((s_.length : Int) - 1)) <|
  slices_Reverse_int_int_l1 FU s_ 0 ((s_.length : Int) - 1)
def book_desk_through_l2 (l3 : RwL) (k : Int) : Nat → Int → RwL → Option RwL
  | 0, _k2, there4 =>
  some there4
  | fu2 + 1, k2, there4 =>
  ix there4 k fun x =>
  ix x k2 fun x2 =>
  gd (R64 ((l3.length : Int) - 1)) <|
  gd (R64 (((l3.length : Int) - 1) - k)) <|
  ix l3 (((l3.length : Int) - 1) - k) fun x3 =>
  ix x3 k2 fun x4 =>
  gd (R64 (x2 * x4)) <|
  bv (there4.set (k : Int).toNat (x.set (k2 : Int).toNat (x2 * x4))) fun l4 =>
  book_desk_through_l2 l3 k fu2 (k2 + 1) l4
def book_desk_through_l1 (l3 : RwL) : Nat → Int → RwL → Option RwL
  | 0, _k, there2 =>
  some there2
  | fu1 + 1, k, there2 =>
  b1 (gd (R64 0 ∧ R64 8) <|
  book_desk_through_l2 l3 k (Int.toNat (8 - 0)) 0 there2) fun there3 =>
  book_desk_through_l1 l3 fu1 (k + 1) there3
def book_desk_through (houses notices : Int) (hears : HsL) (readings : List Int) (cries : CsL) : Option RwL :=
  b1 (book_desk_ways houses notices hears readings cries) fun l =>
  b1 (slices_Clone_int_int readings) fun l2 =>
  b1 (slices_Reverse_int_int l2) fun s_ =>
  b1 (book_desk_ways 0 0 [] s_ []) fun l3 =>
  b1 (gd (R64 0 ∧ R64 (l.length : Int)) <|
  book_desk_through_l1 l3 (Int.toNat ((l.length : Int) - 0)) 0 l) fun there =>
  some there
def book_Count_l1 (x : List Int) : Nat → Int → Int → Option Int
  | 0, _k, n3 =>
  some n3
  | fu1 + 1, k, n3 =>
  ix x k fun x2 =>
  gd (R64 (n3 + x2)) <|
  book_Count_l1 x fu1 (k + 1) (n3 + x2)
def book_Count (houses notices : Int) (hears : HsL) (readings : List Int) (cries : CsL) : Option (Int × Int) :=
  b2 (book_opened houses notices hears readings cries) fun d n =>
  if n ≠ 0 then
  (some (0, n))
  else
  (b1 (b5 d fun houses2 notices2 hears2 readings2 cries2 =>
  b1 (book_desk_through houses2 notices2 hears2 readings2 cries2) fun l =>
  ix l 0 fun x =>
  gd (R64 0 ∧ R64 8) <|
  book_Count_l1 x (Int.toNat (8 - 0)) 0 0) fun n2 =>
  some (n2, 0))
def oyezlaw07_Bell : Option (Int × Int × HsL × (List Int) × CsL) :=
  some (2, 1, [[[0], [0, 1], [1], [1], [], [], [], []]], [1, -1, 4], [(0, 0, 0), (2, 0, 0)])
def book_Winds_l4 (x : List Int) : Nat → Int → (List Int) → Option (List Int)
  | 0, _k2, own2 =>
  some own2
  | fu4 + 1, k2, own2 =>
  ix x k2 fun x2 =>
  if 0 < x2 then
  (ap own2 [k2] fun own3 =>
  book_Winds_l4 x fu4 (k2 + 1) own3)
  else
  (book_Winds_l4 x fu4 (k2 + 1) own2)
def book_Winds_j3 (rec2 : RwL → Option (RwL × Int)) (out3 : RwL) : Option (RwL × Int) :=
  rec2 out3
def book_Winds_j1 (out : RwL) : Option (RwL × Int) :=
  some (out, 0)
def book_Winds_l2 : RwL → RwL → Option (RwL × Int)
  | [], out2 =>
  book_Winds_j1 out2
  | x :: tl2, out2 =>
  b1 (gd (R64 0 ∧ R64 8) <|
  book_Winds_l4 x (Int.toNat (8 - 0)) 0 []) fun own =>
  if (own.length : Int) = 0 then
  (some ([], 7))
  else
  (ap out2 [own] fun out4 =>
  book_Winds_j3 (book_Winds_l2 tl2) out4)
def book_Winds (houses notices : Int) (hears : HsL) (readings : List Int) (cries : CsL) : Option (RwL × Int) :=
  b2 (book_opened houses notices hears readings cries) fun d n =>
  if n ≠ 0 then
  (some ([], n))
  else
  (b5 d fun houses2 notices2 hears2 readings2 cries2 =>
  b1 (book_desk_through houses2 notices2 hears2 readings2 cries2) fun l =>
  book_Winds_l2 l [])
def book_First_l2 (out2 : List Int) (k : Int) : List Int → Option (List Int)
  | [] =>
  some out2
  | x2 :: tl4 =>
  b1 (if k = 0 then
  (some true)
  else
  (gd (R64 (k - 1)) <|
  ix out2 (k - 1) fun x3 =>
  b1 (book_near x2 x3) fun ok =>
  some ok)) fun k3 =>
  if k3 = true then
  (ap out2 [x2] fun out4 =>
  some out4)
  else
  (book_First_l2 out2 k tl4)
def book_First_l1 : RwL → Int → (List Int) → Option (List Int)
  | [], _k, out2 =>
  some out2
  | x :: tl2, k, out2 =>
  b1 (book_First_l2 out2 k x) fun out3 =>
  book_First_l1 tl2 (k + 1) out3
def book_First (houses notices : Int) (hears : HsL) (readings : List Int) (cries : CsL) : Option ((List Int) × Int) :=
  b2 (book_Winds houses notices hears readings cries) fun l n =>
  if n ≠ 0 then
  (some ([], n))
  else
  (b1 (book_First_l1 l 0 []) fun out =>
  some (out, 0))
def slices_Equal_int_int_j1 : Option Bool :=
  some true
def slices_Equal_int_int_l2 (s2 : List Int) : List Int → Int → Option Bool
  | [], _k =>
  slices_Equal_int_int_j1
  | x :: tl2, k =>
  ix s2 k fun x2 =>
  if x ≠ x2 then
  (some false)
  else
  (slices_Equal_int_int_l2 s2 tl2 (k + 1))
def slices_Equal_int_int (s1 s2 : List Int) : Option Bool :=
  if (s1.length : Int) ≠ (s2.length : Int) then
  (some false)
  else
  (slices_Equal_int_int_l2 s2 s1 0)
def oyezkit_Like_int (a b : List Int) : Option Bool :=
  b1 (slices_Equal_int_int a b) fun ok =>
  some ok
def slices_EqualFunc_book_Verdict_book_Verdict_book_Verdict_book_Verdict_j1 : Option Bool :=
  some true
def slices_EqualFunc_book_Verdict_book_Verdict_book_Verdict_book_Verdict_l2 (s2 : RwL) (eq : ((List Int) × (List Int)) → Option Bool) : RwL → Int → Option Bool
  | [], _k =>
  slices_EqualFunc_book_Verdict_book_Verdict_book_Verdict_book_Verdict_j1
  | x :: tl2, k =>
  ix s2 k fun x2 =>
  b1 (eq (x, x2)) fun ok =>
  if (!ok) = true then
  (some false)
  else
  (slices_EqualFunc_book_Verdict_book_Verdict_book_Verdict_book_Verdict_l2 s2 eq tl2 (k + 1))
def slices_EqualFunc_book_Verdict_book_Verdict_book_Verdict_book_Verdict (s1 s2 : RwL) (eq : ((List Int) × (List Int)) → Option Bool) : Option Bool :=
  if (s1.length : Int) ≠ (s2.length : Int) then
  (some false)
  else
  (slices_EqualFunc_book_Verdict_book_Verdict_book_Verdict_book_Verdict_l2 s2 eq s1 0)
def slices_Equal_book_Verdict_book_Verdict_j1 : Option Bool :=
  some true
def slices_Equal_book_Verdict_book_Verdict_l2 (s2 : List Int) : List Int → Int → Option Bool
  | [], _k =>
  slices_Equal_book_Verdict_book_Verdict_j1
  | x :: tl2, k =>
  ix s2 k fun x2 =>
  if x ≠ x2 then
  (some false)
  else
  (slices_Equal_book_Verdict_book_Verdict_l2 s2 tl2 (k + 1))
def slices_Equal_book_Verdict_book_Verdict (s1 s2 : List Int) : Option Bool :=
  if (s1.length : Int) ≠ (s2.length : Int) then
  (some false)
  else
  (slices_Equal_book_Verdict_book_Verdict_l2 s2 s1 0)
def oyezkit_LikeRows_Verdict (a b : RwL) : Option Bool :=
  b1 (slices_EqualFunc_book_Verdict_book_Verdict_book_Verdict_book_Verdict a b (fun xx_ : (List Int) × (List Int) => slices_Equal_book_Verdict_book_Verdict xx_.1 xx_.2)) fun ok =>
  some ok
def slices_EqualFunc_int_int_int_int_j1 : Option Bool :=
  some true
def slices_EqualFunc_int_int_int_int_l2 (s2 : RwL) (eq : ((List Int) × (List Int)) → Option Bool) : RwL → Int → Option Bool
  | [], _k =>
  slices_EqualFunc_int_int_int_int_j1
  | x :: tl2, k =>
  ix s2 k fun x2 =>
  b1 (eq (x, x2)) fun ok =>
  if (!ok) = true then
  (some false)
  else
  (slices_EqualFunc_int_int_int_int_l2 s2 eq tl2 (k + 1))
def slices_EqualFunc_int_int_int_int (s1 s2 : RwL) (eq : ((List Int) × (List Int)) → Option Bool) : Option Bool :=
  if (s1.length : Int) ≠ (s2.length : Int) then
  (some false)
  else
  (slices_EqualFunc_int_int_int_int_l2 s2 eq s1 0)
def oyezkit_LikeRows_int (a b : RwL) : Option Bool :=
  b1 (slices_EqualFunc_int_int_int_int a b (fun xx_ : (List Int) × (List Int) => slices_Equal_int_int xx_.1 xx_.2)) fun ok =>
  some ok
def cmp_Compare_int (x y : Int) : Option Int :=
  b1 (cmp_isNaN_int x) fun ok =>
  b1 (cmp_isNaN_int y) fun ok2 =>
  if ok = true then
  (if ok2 = true then
  (some 0)
  else
  (some (-1)))
  else
  (if ok2 = true then
  (some 1)
  else
  (if x < y then
  (some (-1))
  else
  (if y < x then
  (some 1)
  else
  (some 0))))
def slices_Compare_int_int_j1 (s1 s2 : List Int) : Option Int :=
  if (s1.length : Int) < (s2.length : Int) then
  (some (-1))
  else
  (some 0)
def slices_Compare_int_int_l2 (s1 s2 : List Int) : List Int → Int → Option Int
  | [], _k =>
  slices_Compare_int_int_j1 s1 s2
  | x :: tl2, k =>
  if (s2.length : Int) ≤ k then
  (some 1)
  else
  (ix s2 k fun x2 =>
  b1 (cmp_Compare_int x x2) fun n =>
  if n ≠ 0 then
  (some n)
  else
  (slices_Compare_int_int_l2 s1 s2 tl2 (k + 1)))
def slices_Compare_int_int (s1 s2 : List Int) : Option Int :=
  slices_Compare_int_int_l2 s1 s2 s1 0
def book_Fewest_l1 (complaints : List (Int × Int × Bool)) : List ((List Bool) × (List Int)) → (List Int) → Option (List Int)
  | [], best2 =>
  some best2
  | x2 :: tl2, best2 =>
  b1 (book_wrong complaints x2.1) fun l4 =>
  b1 (if (l4.length : Int) < (best2.length : Int) then
  (some true)
  else
  (if (l4.length : Int) = (best2.length : Int) then
  (b1 (slices_Compare_int_int l4 best2) fun n2 =>
  some (decide (n2 < 0)))
  else
  (some false))) fun k2 =>
  if k2 = true then
  (book_Fewest_l1 complaints tl2 l4)
  else
  (book_Fewest_l1 complaints tl2 best2)
def book_Fewest (houses notices : Int) (hears : HsL) (readings : List Int) (cries : CsL) (complaints : List (Int × Int × Bool)) : Option ((List Int) × Int) :=
  b2 (book_heard houses notices hears readings cries complaints) fun l n =>
  if n ≠ 0 then
  (some ([], n))
  else
  (ix l 0 fun x =>
  b1 (book_wrong complaints x.1) fun l2 =>
  b1 (gd ((0 ≤ (1 : Int) ∧ (1 : Int) ≤ (l.length : Int)) ∧ (l.length : Int) ≤ l.length) <|
  bv (sl l 1 (l.length : Int)) fun l3 =>
  book_Fewest_l1 complaints l3 l2) fun best =>
  some (best, 0))
def slices_Clone_book_Cry_book_Cry (s_ : CsL) : Option CsL :=
  nilIf (s_ = []) (some []) (ap ([] : CsL) s_ fun l =>
  some l)
def book_Again_1_1_1 (h : Int) (g : List Bool) (x : Int) : Option Bool :=
  gd (0 ≤ h ∧ h < 6) <|
  gd (0 ≤ x ∧ x < 4) <|
  ix g (h * 4 + x) fun x2 =>
  some x2
def book_Again_1_1 (g : List Bool) (x : List Int) (x2 : Int) : Option Bool :=
  b1 (book_every_int x (fun xx_ : Int => book_Again_1_1_1 xx_ g x2)) fun ok =>
  some (!ok)
def book_Again_1B_l2 (hour notice : Int) : List Int → CsL → Option CsL
  | [], d_cries2 =>
  some d_cries2
  | x :: tl2, d_cries2 =>
  ap d_cries2 [(hour, x, notice)] fun l3 =>
  book_Again_1B_l2 hour notice tl2 l3
def book_Again_1B_j3 (out2 : List Int) (found2 : Bool) : Option (Bool × (List Int) × Bool) :=
  some (false, out2, found2)
def book_Again_1B_l4 (l : List Int) (many houses notices : Int) (hears : HsL) (readings : List Int) (cries : CsL) (hour notice : Int) (houses2 : List Int) (rec_ : (List Int) → Int → Int → Int → Int → HsL → (List Int) → CsL → Int → Int → (List Int) → (List Int) → Bool → Option (Bool × (List Int) × Bool)) : Nat → Int → (List Int) → Bool → Option (Bool × (List Int) × Bool)
  | 0, _s_, out3, found3 =>
  book_Again_1B_j3 out3 found3
  | fu4 + 1, s_, out3, found3 =>
  gd (R64 (many - 1)) <|
  b1 (slices_Clone_int_int l) fun l6 =>
  ap l6 [s_] fun l7 =>
  b3 (rec_ l7 (s_ + 1) (many - 1) houses notices hears readings cries hour notice houses2 out3 found3) fun ok out4 found4 =>
  if ok = true then
  (some (true, out4, found4))
  else
  (book_Again_1B_l4 l many houses notices hears readings cries hour notice houses2 rec_ fu4 (s_ + 1) out4 found4)
def book_Again_1B_j1 (l : List Int) (from_ many houses notices : Int) (hears : HsL) (readings : List Int) (cries : CsL) (hour notice : Int) (houses2 out : List Int) (found : Bool) (rec_ : (List Int) → Int → Int → Int → Int → HsL → (List Int) → CsL → Int → Int → (List Int) → (List Int) → Bool → Option (Bool × (List Int) × Bool)) : Option (Bool × (List Int) × Bool) :=
  gd (R64 from_ ∧ R64 (hears.length : Int)) <|
  book_Again_1B_l4 l many houses notices hears readings cries hour notice houses2 rec_ (Int.toNat ((hears.length : Int) - from_)) from_ out found
def book_Again_1B (rec_ : (List Int) → Int → Int → Int → Int → HsL → (List Int) → CsL → Int → Int → (List Int) → (List Int) → Bool → Option (Bool × (List Int) × Bool)) (l : List Int) (from_ many houses notices : Int) (hears : HsL) (readings : List Int) (cries : CsL) (hour notice : Int) (houses2 out : List Int) (found : Bool) : Option (Bool × (List Int) × Bool) :=
  if many = 0 then
  (b1 (slices_Clone_book_Cry_book_Cry cries) fun l2 =>
  b1 (book_Again_1B_l2 hour notice l l2) fun d_cries =>
  b1 (book_desk_endings houses notices hears readings d_cries) fun l4 =>
  b1 (book_goal_find (fun xx_ : (List Bool) => book_Again_1_1 xx_ houses2 notice) l4) fun l5 =>
  if l5 = [] then
  (some (true, l, true))
  else
  (some (found, out, found)))
  else
  book_Again_1B_j1 l from_ many houses notices hears readings cries hour notice houses2 out found rec_
def book_Again_1 : Nat → (List Int) → Int → Int → Int → Int → HsL → (List Int) → CsL → Int → Int → (List Int) → (List Int) → Bool → Option (Bool × (List Int) × Bool)
  | 0, _, _, _, _, _, _, _, _, _, _, _, _, _ => none
  | fu + 1, l, from_, many, houses, notices, hears, readings, cries, hour, notice, houses2, out, found =>
  book_Again_1B (book_Again_1 fu) l from_ many houses notices hears readings cries hour notice houses2 out found
def book_Again_l1 (houses notices : Int) (hears : HsL) (readings : List Int) (cries : CsL) (notice hour : Int) (houses2 : List Int) : Nat → Int → (List Int) → Bool → Option ((List Int) × Bool)
  | 0, _k2, out2, found2 =>
  some (out2, found2)
  | fu1 + 1, k2, out2, found2 =>
  b3 (book_Again_1 FU [] 0 k2 houses notices hears readings cries hour notice houses2 out2 found2) fun ok3 out3 found3 =>
  if ok3 = true then
  (some (out3, found3))
  else
  (book_Again_l1 houses notices hears readings cries notice hour houses2 fu1 (k2 + 1) out3 found3)
def book_Again (houses notices : Int) (hears : HsL) (readings : List Int) (cries : CsL) (notice hour : Int) (houses2 : List Int) : Option ((List Int) × Int) :=
  b1 (book_Check houses notices hears readings cries) fun n =>
  if n ≠ 0 then
  (some ([], n))
  else
  (b1 (b1 (book_Book_notice houses notices hears readings cries notice) fun ok =>
  if (!ok) = true then
  (some true)
  else
  (b1 (book_Book_hour houses notices hears readings cries hour) fun ok2 =>
  some (!ok2))) fun k =>
  if k = true then
  (some ([], 1))
  else
  (b1 (book_Book_listed houses notices hears readings cries houses2) fun n2 =>
  if n2 ≠ 0 then
  (some ([], n2))
  else
  (b3 (book_told houses notices hears readings cries) fun _d _l n3 =>
  if n3 ≠ 0 then
  (some ([], n3))
  else
  (b2 (gd (R64 ((hears.length : Int) + 1)) <|
  gd (R64 0 ∧ R64 ((hears.length : Int) + 1)) <|
  book_Again_l1 houses notices hears readings cries notice hour houses2 (Int.toNat (((hears.length : Int) + 1) - 0)) 0 [] false) fun out found =>
  if (!found) = true then
  (some ([], 6))
  else
  (some (out, 0))))))
def oyezlaw07_awake : Option Bool :=
  b5 (oyezlaw07_Bell) fun n n2 l l2 l3 =>
  b2 (book_Count n n2 l l2 l3) fun n3 n4 =>
  b5 (oyezlaw07_Bell) fun n5 n6 l4 l5 l6 =>
  b2 (book_First n5 n6 l4 l5 l6) fun l7 n7 =>
  b5 (oyezlaw07_Bell) fun n8 n9 l8 l9 l10 =>
  b2 (book_Verdicts n8 n9 l8 l9 l10) fun l11 n10 =>
  b5 (oyezlaw07_Bell) fun n11 n12 l12 l13 l14 =>
  b2 (book_Winds n11 n12 l12 l13 l14) fun l15 n13 =>
  b1 (if n4 ≠ 0 then
  (some true)
  else
  (if n7 ≠ 0 then
  (some true)
  else
  (if n10 ≠ 0 then
  (some true)
  else
  (if n13 ≠ 0 then
  (some true)
  else
  (if n3 ≠ 4 then
  (some true)
  else
  (b1 (oyezkit_Like_int l7 [1, 2, 3]) fun ok =>
  if (!ok) = true then
  (some true)
  else
  (b1 (oyezkit_LikeRows_Verdict l11 [[0], [1]]) fun ok2 =>
  if (!ok2) = true then
  (some true)
  else
  (b1 (oyezkit_LikeRows_int l15 [[1, 2], [2, 3], [3, 4]]) fun ok3 =>
  some (!ok3))))))))) fun k =>
  if k = true then
  (some false)
  else
  (b5 (oyezlaw07_Bell) fun n14 n15 l16 l17 l18 =>
  b2 (book_Fewest n14 n15 l16 l17 l18 [(0, 0, true), (0, 0, false)]) fun l19 n16 =>
  b5 (oyezlaw07_Bell) fun n17 n18 l20 l21 l22 =>
  b2 (book_Refuted n17 n18 l20 l21 l22 1 0 false) fun ok4 n19 =>
  ix [(0, 0, true), (0, 0, false)] 0 fun x =>
  b5 (oyezlaw07_Bell) fun n20 n21 l23 l24 l25 =>
  b2 (book_Witness n20 n21 l23 l24 l25 x.1 x.2.1 x.2.2) fun l26 n22 =>
  b5 (oyezlaw07_Bell) fun n23 n24 l27 l28 l29 =>
  b2 (book_Again n23 n24 l27 l28 l29 0 1 [0]) fun _l30 n25 =>
  if n16 = 0 then
  (if n19 = 0 then
  (if n22 = 0 then
  (if n25 = 6 then
  (if ok4 = true then
  (b1 (oyezkit_Like_int l19 [0]) fun ok5 =>
  if ok5 = true then
  (b1 (oyezkit_Like_int l26 [1, 2, 3]) fun ok6 =>
  some ok6)
  else
  (some false))
  else
  (some false))
  else
  (some false))
  else
  (some false))
  else
  (some false))
  else
  (some false))
def round_Beat_notice (_walks _hears : RwL) (_houses _start : Int) (notices : NtL) (n : Int) : Option Bool :=
  gd (R64 ((notices.length : Int) - 1)) <|
  b1 (round_in n 0 ((notices.length : Int) - 1)) fun ok =>
  some ok
def round_gone_j1 (d : Option (RwL × RwL × Int × Int × NtL × (List Int) × (List (Int × Int)) × (List Int))) (out : List Int) : Option ((Option (RwL × RwL × Int × Int × NtL × (List Int) × (List (Int × Int)) × (List Int))) × (List Int) × Int) :=
  some (d, out, 0)
def round_gone_l2 (walks hears : RwL) (houses start : Int) (notices : NtL) (d : Option (RwL × RwL × Int × Int × NtL × (List Int) × (List (Int × Int)) × (List Int))) : List (Int × Int) → Int → Int → (List Int) → Option ((Option (RwL × RwL × Int × Int × NtL × (List Int) × (List (Int × Int)) × (List Int))) × (List Int) × Int)
  | [], _at_, _minute, out2 =>
  round_gone_j1 d out2
  | x :: tl2, at_, minute, out2 =>
  b1 (b1 (round_Beat_stand walks hears houses start notices x.1) fun ok =>
  if (!ok) = true then
  (some true)
  else
  (b1 (round_Beat_notice walks hears houses start notices x.2) fun ok2 =>
  some (!ok2))) fun k2 =>
  if k2 = true then
  (some (none, [], 1))
  else
  (b8 d fun _walks2 _hears2 _houses2 _start2 _notices2 walks3 _pairs _hit =>
  gd (0 ≤ at_ ∧ at_ < 5) <|
  gd (0 ≤ x.1 ∧ x.1 < 5) <|
  ix walks3 (at_ * 5 + x.1) fun x2 =>
  if x2 = (-1) then
  (some (none, [], 6))
  else
  (gd (R64 (minute + x2)) <|
  ix notices x.2 fun x3 =>
  gd (R64 ((minute + x2) + x3.2.1)) <|
  ap out2 [(minute + x2) + x3.2.1] fun out3 =>
  round_gone_l2 walks hears houses start notices d tl2 x.1 ((minute + x2) + x3.2.1) out3))
def round_gone (walks hears : RwL) (houses start : Int) (notices : NtL) (round : List (Int × Int)) : Option ((Option (RwL × RwL × Int × Int × NtL × (List Int) × (List (Int × Int)) × (List Int))) × (List Int) × Int) :=
  b2 (round_opened walks hears houses start notices) fun d n =>
  if n ≠ 0 then
  (some (none, [], n))
  else
  (if 20 < (round.length : Int) then
  (some (none, [], 2))
  else
  (round_gone_l2 walks hears houses start notices d round start 0 []))
def round_Ends (walks hears : RwL) (houses start : Int) (notices : NtL) (round : List (Int × Int)) : Option ((List Int) × Int) :=
  b3 (round_gone walks hears houses start notices round) fun _d l n =>
  some (l, n)
def math_bits_Mul64 (x y : Int) : Option (Int × Int) :=
  bv (((bandK 64 x 4294967295) * (bandK 64 y 4294967295)) % 18446744073709551616) fun w0 =>
  bv (((((shr x 32) * (bandK 64 y 4294967295)) % 18446744073709551616) + (shr w0 32)) % 18446744073709551616) fun t =>
  bv (((bandK 64 t 4294967295) + (((bandK 64 x 4294967295) * (shr y 32)) % 18446744073709551616)) % 18446744073709551616) fun w1 =>
  bv (((((((shr x 32) * (shr y 32)) % 18446744073709551616) + (shr t 32)) % 18446744073709551616) + (shr w1 32)) % 18446744073709551616) fun hi =>
  bv ((x * y) % 18446744073709551616) fun lo =>
  some (hi, lo)
def math_bits_Mul (x y : Int) : Option (Int × Int) :=
  b2 (math_bits_Mul64 x y) fun n n2 =>
  some (n, n2)
def slices_Repeat_int_int_l1 : Nat → (List Int) → Int → Option (List Int)
  | 0, _, _ => none
  | fu1 + 1, newslice3, n4 =>
  if n4 < (newslice3.length : Int) then
  (gd (0 ≤ n4 ∧ n4 ≤ (newslice3.length : Int)) <|
  gd (0 ≤ n4 ∧ n4 ≤ (newslice3.length : Int)) <|
  gd (0 ≤ n4 ∧ n4 < (newslice3.length : Int)) <|
  bv (newslice3.take (Int.toNat n4) ++ (newslice3.take (Nat.min (Int.toNat n4) (newslice3.length - (Int.toNat n4))) ++ newslice3.drop ((Int.toNat n4) + (Nat.min (Int.toNat n4) (newslice3.length - (Int.toNat n4)))))) fun l2 =>
  gd (R64 (n4 + (((Nat.min (Int.toNat n4) (newslice3.length - (Int.toNat n4))) : Nat) : Int))) <|
  bv (n4 + (((Nat.min (Int.toNat n4) (newslice3.length - (Int.toNat n4))) : Nat) : Int)) fun n5 =>
  slices_Repeat_int_int_l1 fu1 l2 n5)
  else
  (some newslice3)
def slices_Repeat_int_int (x : List Int) (count : Int) : Option (List Int) :=
  gd (¬ (count < 0)) <|
  b2 (math_bits_Mul ((x.length : Int) % 18446744073709551616) (count % 18446744073709551616)) fun n n2 =>
  b1 (if 0 < n then
  (some true)
  else
  (some (decide (9223372036854775807 < n2)))) fun k =>
  gd (k = false) <|
  gd (R64 n2) <|
  gd (0 ≤ n2 ∧ n2 ≤ 1048576) <|
  bv (List.replicate (n2 : Int).toNat 0 : List Int) fun l =>
  bv (cpy l x) fun newslice =>
  bv (((Nat.min x.length l.length : Nat) : Int)) fun n3 =>
  b1 (slices_Repeat_int_int_l1 FU newslice n3) fun newslice2 =>
  some newslice2
def round_Heard_l1 (houses : Int) : NtL → RwL → Option RwL
  | [], out2 =>
  some out2
  | _x :: tl2, out2 =>
  b1 (slices_Repeat_int_int [-1] houses) fun l2 =>
  ap out2 [l2] fun out3 =>
  round_Heard_l1 houses tl2 out3
def round_Heard_l3 (l : List Int) (k2 : Int) (x2 : Int × Int) : List Int → RwL → Option RwL
  | [], out7 =>
  some out7
  | x4 :: tl6, out7 =>
  ix out7 x2.2 fun x5 =>
  ix x5 x4 fun x6 =>
  ix l k2 fun x7 =>
  b1 (round_soonest [x6, x7]) fun n2 =>
  bv (x5.set (x4 : Int).toNat n2) fun l3 =>
  bv (out7.set (x2.2 : Int).toNat l3) fun out8 =>
  round_Heard_l3 l k2 x2 tl6 out8
def round_Heard_l2 (hears : RwL) (l : List Int) : List (Int × Int) → Int → RwL → Option RwL
  | [], _k2, out5 =>
  some out5
  | x2 :: tl4, k2, out5 =>
  b1 (ix hears x2.1 fun x3 =>
  round_Heard_l3 l k2 x2 x3 out5) fun out6 =>
  round_Heard_l2 hears l tl4 (k2 + 1) out6
def round_Heard (walks hears : RwL) (houses start : Int) (notices : NtL) (round : List (Int × Int)) : Option (RwL × Int) :=
  b3 (round_gone walks hears houses start notices round) fun _d l n =>
  if n ≠ 0 then
  (some ([], n))
  else
  (b1 (round_Heard_l1 houses notices []) fun out =>
  b1 (round_Heard_l2 hears l round 0 out) fun out4 =>
  some (out4, 0))
def slices_Repeat_int_int__l1 : Nat → RwL → Int → Option RwL
  | 0, _, _ => none
  | fu1 + 1, newslice3, n4 =>
  if n4 < (newslice3.length : Int) then
  (gd (0 ≤ n4 ∧ n4 ≤ (newslice3.length : Int)) <|
  gd (0 ≤ n4 ∧ n4 ≤ (newslice3.length : Int)) <|
  gd (0 ≤ n4 ∧ n4 < (newslice3.length : Int)) <|
  bv (newslice3.take (Int.toNat n4) ++ (newslice3.take (Nat.min (Int.toNat n4) (newslice3.length - (Int.toNat n4))) ++ newslice3.drop ((Int.toNat n4) + (Nat.min (Int.toNat n4) (newslice3.length - (Int.toNat n4)))))) fun l2 =>
  gd (R64 (n4 + (((Nat.min (Int.toNat n4) (newslice3.length - (Int.toNat n4))) : Nat) : Int))) <|
  bv (n4 + (((Nat.min (Int.toNat n4) (newslice3.length - (Int.toNat n4))) : Nat) : Int)) fun n5 =>
  slices_Repeat_int_int__l1 fu1 l2 n5)
  else
  (some newslice3)
def slices_Repeat_int_int_ (x : RwL) (count : Int) : Option RwL :=
  gd (¬ (count < 0)) <|
  b2 (math_bits_Mul ((x.length : Int) % 18446744073709551616) (count % 18446744073709551616)) fun n n2 =>
  b1 (if 0 < n then
  (some true)
  else
  (some (decide (9223372036854775807 < n2)))) fun k =>
  gd (k = false) <|
  gd (R64 n2) <|
  gd (0 ≤ n2 ∧ n2 ≤ 1048576) <|
  bv (List.replicate (n2 : Int).toNat [] : RwL) fun l =>
  bv (cpy l x) fun newslice =>
  bv (((Nat.min x.length l.length : Nat) : Int)) fun n3 =>
  b1 (slices_Repeat_int_int__l1 FU newslice n3) fun newslice2 =>
  some newslice2
def oyezlaw07_BookRounds_l1 : RwL → HsL → Option HsL
  | [], b_hears2 =>
  some b_hears2
  | x :: tl2, b_hears2 =>
  b1 (slices_Repeat_int_int_ [x] 8) fun l7 =>
  ap b_hears2 [l7] fun l8 =>
  oyezlaw07_BookRounds_l1 tl2 l8
def oyezlaw07_BookRounds_l2 (metal2 : List Int) : Nat → Int → Int → (List Int) → Option (List Int)
  | 0, _q_at, _q_turn, b_readings2 =>
  some b_readings2
  | fu2 + 1, q_at, q_turn, b_readings2 =>
  b3 (oyezkit_Bell_Strike metal2 q_at q_turn 2 3) fun n7 at_4 turn4 =>
  ap b_readings2 [n7] fun l9 =>
  oyezlaw07_BookRounds_l2 metal2 fu2 at_4 turn4 l9
def oyezlaw07_BookRounds_j7 (k8 : Int) (rec6 : Int → Option Bool) : Option Bool :=
  rec6 (k8 + 1)
def oyezlaw07_BookRounds_l8 (n : Int) (l3 : NtL) (l6 : RwL) (b_hears : HsL) (b_readings : List Int) (b_cries : CsL) (k8 : Int) (rec6 : Int → Option Bool) : List Int → Int → Option Bool
  | [], _k9 =>
  oyezlaw07_BookRounds_j7 k8 rec6
  | x6 :: tl8, k9 =>
  ix l6 k9 fun x7 =>
  if (x7.length : Int) ≠ n then
  (some false)
  else
  (b1 (ix x7 k8 fun x8 =>
  if x8 ≠ (-1) then
  (some 1)
  else
  (some 2)) fun want =>
  if x6 ≠ want then
  (some false)
  else
  (b2 (book_Refuted n (l3.length : Int) b_hears b_readings b_cries k8 k9 false) fun ok3 n9 =>
  b1 (if n9 ≠ 0 then
  (some true)
  else
  (ix l3 k9 fun x9 =>
  b1 (slices_Contains_int_int x9.1 k8) fun ok4 =>
  if ok4 = true then
  (some (!ok3))
  else
  (some false))) fun k10 =>
  if k10 = true then
  (some false)
  else
  (oyezlaw07_BookRounds_l8 n l3 l6 b_hears b_readings b_cries k8 rec6 tl8 (k9 + 1))))
def oyezlaw07_BookRounds_j5 : Option Bool :=
  b1 (oyezlaw07_awake) fun ok5 =>
  some ok5
def oyezlaw07_BookRounds_l6 (n : Int) (l3 : NtL) (l6 : RwL) (b_hears : HsL) (b_readings : List Int) (b_cries : CsL) : RwL → Int → Option Bool
  | [], _k8 =>
  oyezlaw07_BookRounds_j5
  | x5 :: tl6, k8 =>
  if (x5.length : Int) ≠ (l3.length : Int) then
  (some false)
  else
  (oyezlaw07_BookRounds_l8 n l3 l6 b_hears b_readings b_cries k8 (oyezlaw07_BookRounds_l6 n l3 l6 b_hears b_readings b_cries tl6) x5 0)
def oyezlaw07_BookRounds_j3 (n : Int) (l3 : NtL) (l6 : RwL) (b_hears : HsL) (b_readings : List Int) (b_cries : CsL) : Option Bool :=
  b2 (book_Verdicts n (l3.length : Int) b_hears b_readings b_cries) fun l11 n8 =>
  b1 (if n8 ≠ 0 then
  (some true)
  else
  (some (decide ((l11.length : Int) ≠ n)))) fun k7 =>
  if k7 = true then
  (some false)
  else
  (oyezlaw07_BookRounds_l6 n l3 l6 b_hears b_readings b_cries l11 0)
def oyezlaw07_BookRounds_l4 (l2 : RwL) (n : Int) (l3 : NtL) (l5 : List Int) (l6 : RwL) (b_hears : HsL) (b_readings : List Int) : List (Int × Int) → Int → CsL → Option Bool
  | [], _k5, b_cries2 =>
  oyezlaw07_BookRounds_j3 n l3 l6 b_hears b_readings b_cries2
  | x2 :: tl4, k5, b_cries2 =>
  b1 (ix l5 k5 fun x3 =>
  if x3 < 0 then
  (some true)
  else
  (if 200 < x3 then
  (some true)
  else
  (if x2.1 < 0 then
  (some true)
  else
  (if (l2.length : Int) ≤ x2.1 then
  (some true)
  else
  (if x2.2 < 0 then
  (some true)
  else
  (some (decide ((l3.length : Int) ≤ x2.2)))))))) fun k6 =>
  if k6 = true then
  (some false)
  else
  (ix l5 k5 fun x4 =>
  gd (R64 (x4 * 7)) <|
  gd ((200 : Int) ≠ 0 ∧ R64 (Int.tdiv (x4 * 7) 200)) <|
  ap b_cries2 [(Int.tdiv (x4 * 7) 200, x2.1, x2.2)] fun l10 =>
  oyezlaw07_BookRounds_l4 l2 n l3 l5 l6 b_hears b_readings tl4 (k5 + 1) l10)
def oyezlaw07_BookRounds (numbers readings : List Int) : Option Bool :=
  b3 (oyezkit_Hang numbers) fun metal at_ turn =>
  b7 (oyezlaw03_Made metal at_ turn 4 4 3) fun l l2 n n2 l3 _at_2 _turn2 =>
  b3 (round_Best l l2 n n2 l3) fun l4 _n3 n4 =>
  b1 (if n4 ≠ 0 then
  (some true)
  else
  (if (l3.length : Int) = 0 then
  (some true)
  else
  (some (decide (12 < (l4.length : Int)))))) fun k =>
  if k = true then
  (if n4 = 0 then
  (b1 (oyezlaw07_awake) fun ok =>
  some ok)
  else
  (if n4 = 6 then
  (b1 (oyezlaw07_awake) fun ok2 =>
  some ok2)
  else
  (some false)))
  else
  (b2 (round_Ends l l2 n n2 l3 l4) fun l5 n5 =>
  b2 (round_Heard l l2 n n2 l3 l4) fun l6 n6 =>
  b1 (if n5 ≠ 0 then
  (some true)
  else
  (if n6 ≠ 0 then
  (some true)
  else
  (if (l5.length : Int) ≠ (l4.length : Int) then
  (some true)
  else
  (some (decide ((l6.length : Int) ≠ (l3.length : Int))))))) fun k2 =>
  if k2 = true then
  (some false)
  else
  (b3 (oyezkit_Hang readings) fun metal2 at_3 turn3 =>
  b1 (oyezlaw07_BookRounds_l1 l2 []) fun b_hears =>
  b1 (gd (R64 0 ∧ R64 8) <|
  oyezlaw07_BookRounds_l2 metal2 (Int.toNat (8 - 0)) at_3 turn3 []) fun b_readings =>
  oyezlaw07_BookRounds_l4 l2 n l3 l5 l6 b_hears b_readings l4 0 []))
end Go.Proofs.YtggpjocmoelpbaaGreat
