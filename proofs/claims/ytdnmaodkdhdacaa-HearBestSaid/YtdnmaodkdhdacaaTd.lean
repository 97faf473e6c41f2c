/- Plain functions that mirror the code, printed by a program of mine. -/
import Derived.Test.YtdnmaodkdhdacaaPl
namespace Go.Proofs.Ytdnmaodkdhdacaa
open Go.PL

/- oyez/oyezlaw01.great -/
def oyezlaw01_great (_wide : Int) (plots : List Int) : Option Bool :=
    some (decide (40 < (plots.length : Int)))

/- oyez/hear.in -/
def hear_in (n : Int) (lo : Int) (hi : Int) : Option Bool :=
    if lo ≤ n then
    (some (decide (n ≤ hi)))
    else
    (some false)

/- (oyez/hear.Town).plot -/
def hear_Town_plot (_wide : Int) (plots : List Int) (p : Int) : Option Bool :=
    gd (R64 ((plots.length : Int) - 1)) <|
    b1 (hear_in p 0 ((plots.length : Int) - 1)) fun ok =>
    some ok

/- (oyez/hear.Town).is -/
def hear_Town_is (wide : Int) (plots : List Int) (p : Int) (kind : Int) : Option Int :=
    b1 (hear_Town_plot wide plots p) fun ok =>
    if (!ok) = true then
    (some 1)
    else
    (ix plots p fun x =>
    if x ≠ kind then
    (some 8)
    else
    (some 0))

/- slices.IndexFunc[[]oyez/hear.Plot,oyez/hear.Plot] -/
def slices_IndexFunc_hear_Plot_hear_Plot_j1 : Option Int :=
    some (-1)
def slices_IndexFunc_hear_Plot_hear_Plot_l2 (f : Int → Option Bool) : List Int → Int → Option Int
  | [], _k =>
    slices_IndexFunc_hear_Plot_hear_Plot_j1
  | x :: tl2, k =>
    b1 (f x) fun ok =>
    if ok = true then
    (some k)
    else
    (slices_IndexFunc_hear_Plot_hear_Plot_l2 f tl2 (k + 1))
def slices_IndexFunc_hear_Plot_hear_Plot (s_ : List Int) (f : Int → Option Bool) : Option Int :=
    slices_IndexFunc_hear_Plot_hear_Plot_l2 f s_ 0

/- slices.ContainsFunc[[]oyez/hear.Plot,oyez/hear.Plot] -/
def slices_ContainsFunc_hear_Plot_hear_Plot (s_ : List Int) (f : Int → Option Bool) : Option Bool :=
    b1 (slices_IndexFunc_hear_Plot_hear_Plot s_ f) fun n =>
    some (decide (0 ≤ n))

/- oyez/hear.every[oyez/hear.Plot]$1 -/
def hear_every_Plot_1 (x : Int) (so : Int → Option Bool) : Option Bool :=
    b1 (so x) fun ok =>
    some (!ok)

/- oyez/hear.every[oyez/hear.Plot] -/
def hear_every_Plot (l : List Int) (so : Int → Option Bool) : Option Bool :=
    b1 (slices_ContainsFunc_hear_Plot_hear_Plot l (fun x : Int => hear_every_Plot_1 x so)) fun ok =>
    some (!ok)

/- oyez/hear.Check$1 -/
def hear_Check_1 (p : Int) : Option Bool :=
    b1 (hear_in p 0 2) fun ok =>
    some ok

/- (oyez/hear.Town).houses -/
def hear_Town_houses_l1 : List Int → Int → Option Int
  | [], n2 =>
    some n2
  | x :: tl2, n2 =>
    if x = 1 then
    (gd (R64 (n2 + 1)) <|
    hear_Town_houses_l1 tl2 (n2 + 1))
    else
    (hear_Town_houses_l1 tl2 n2)
def hear_Town_houses (_wide : Int) (plots : List Int) : Option Int :=
    b1 (hear_Town_houses_l1 plots 0) fun n =>
    some n

/- oyez/hear.Check -/
def hear_Check (wide : Int) (plots : List Int) : Option Int :=
    b1 (b1 (hear_in wide 1 6) fun ok =>
    if (!ok) = true then
    (some true)
    else
    (b1 (hear_in (plots.length : Int) 1 30) fun ok2 =>
    if (!ok2) = true then
    (some true)
    else
    (gd (wide ≠ 0) <|
    some (decide ((Int.tmod (plots.length : Int) wide) ≠ 0))))) fun k =>
    if k = true then
    (some 2)
    else
    (b1 (hear_every_Plot plots (fun x : Int => hear_Check_1 x)) fun ok3 =>
    if (!ok3) = true then
    (some 3)
    else
    (b1 (hear_Town_houses wide plots) fun n =>
    if 10 < n then
    (some 2)
    else
    (some 0)))

/- (oyez/hear.Dir).there -/
def hear_Dir_there (w : Int) : Option Bool :=
    b1 (hear_in w 0 4) fun ok =>
    some ok

/- oyez/hear.steps -/
def hear_steps : Option (List (Int × (Int × Int))) :=
    bv (mput [] 1 (-1, 0)) fun met =>
    bv (mput met 2 (0, 1)) fun met2 =>
    bv (mput met2 3 (1, 0)) fun met3 =>
    bv (mput met3 4 (0, -1)) fun met4 =>
    some met4

/- oyez/hear.opened -/
def hear_opened (wide : Int) (plots : List Int) (wind : Int) : Option ((Option (Int × (List Int) × Int × Int × Bool)) × Int) :=
    b1 (hear_Check wide plots) fun n =>
    if n ≠ 0 then
    (some (none, n))
    else
    (b1 (hear_Dir_there wind) fun ok =>
    if (!ok) = true then
    (some (none, 3))
    else
    (b1 (hear_steps) fun m =>
    some (some (wide, plots, ((mget m wind).getD (0, 0)).1, ((mget m wind).getD (0, 0)).2, (mget m wind).isSome), 0)))

/- oyez/hear.standing -/
def hear_standing (wide : Int) (plots : List Int) (wind : Int) (stand : Int) : Option ((Option (Int × (List Int) × Int × Int × Bool)) × Int) :=
    b2 (hear_opened wide plots wind) fun d n =>
    if n ≠ 0 then
    (some (none, n))
    else
    (b1 (hear_Town_is wide plots stand 0) fun n2 =>
    if n2 ≠ 0 then
    (some (none, n2))
    else
    (some (d, 0)))

/- (oyez/hear.Town).wall -/
def hear_Town_wall (_wide : Int) (plots : List Int) (p : Int) : Option Bool :=
    ix plots p fun x =>
    some (decide (x = 2))

/- (oyez/hear.step).back -/
def hear_step_back (down : Int) (right_ : Int) : Option (Int × Int) :=
    gd (R64 (-down)) <|
    gd (R64 (-right_)) <|
    some (-down, -right_)

/- (*oyez/hear.desk).needs -/
def hear_desk_needs (_wide : Int) (plots : List Int) (down : Int) (right_ : Int) (blows : Bool) (down2 : Int) (right_2 : Int) (to : Int) : Option Int :=
    b1 (if (!blows) = true then
    (some 2)
    else
    (if down2 = down ∧ right_2 = right_ then
    (some 1)
    else
    (b2 (hear_step_back down right_) fun n2 n3 =>
    if down2 = n2 ∧ right_2 = n3 then
    (some 4)
    else
    (some 2)))) fun n =>
    ix plots to fun x =>
    if x = 1 then
    (gd (R64 (n + 1)) <|
    some (n + 1))
    else
    (some n)

/- (*oyez/hear.desk).next$1 -/
def hear_desk_next_1_l1 (p : Int) (wide : Int) (plots : List Int) (down : Int) (right_ : Int) (blows : Bool) (closed : Int → Option Bool) : Nat → Int → Option (List (Int × Int))
  | 0, _k =>
    some []
  | fu1 + 1, k =>
    ix [(-1, 0), (0, -1), (0, 1), (1, 0)] k fun x =>
    gd (R64 (x.1 * wide)) <|
    gd (R64 (p + (x.1 * wide))) <|
    gd (R64 ((p + (x.1 * wide)) + x.2)) <|
    b1 (hear_Town_plot wide plots ((p + (x.1 * wide)) + x.2)) fun ok =>
    if (!ok) = true then
    (hear_desk_next_1_l1 p wide plots down right_ blows closed fu1 (k + 1))
    else
    (if x.1 = 0 then
    (gd ((wide : Int) ≠ 0 ∧ R64 (Int.tdiv ((p + (x.1 * wide)) + x.2) wide)) <|
    gd ((wide : Int) ≠ 0 ∧ R64 (Int.tdiv p wide)) <|
    if (Int.tdiv ((p + (x.1 * wide)) + x.2) wide) ≠ (Int.tdiv p wide) then
    (hear_desk_next_1_l1 p wide plots down right_ blows closed fu1 (k + 1))
    else
    (b1 (closed ((p + (x.1 * wide)) + x.2)) fun ok2 =>
    if ok2 = true then
    (hear_desk_next_1_l1 p wide plots down right_ blows closed fu1 (k + 1))
    else
    (b1 (hear_desk_needs wide plots down right_ blows x.1 x.2 ((p + (x.1 * wide)) + x.2)) fun n =>
    yl ((p + (x.1 * wide)) + x.2, n) <|
    hear_desk_next_1_l1 p wide plots down right_ blows closed fu1 (k + 1))))
    else
    (b1 (closed ((p + (x.1 * wide)) + x.2)) fun ok3 =>
    if ok3 = true then
    (hear_desk_next_1_l1 p wide plots down right_ blows closed fu1 (k + 1))
    else
    (b1 (hear_desk_needs wide plots down right_ blows x.1 x.2 ((p + (x.1 * wide)) + x.2)) fun n2 =>
    yl ((p + (x.1 * wide)) + x.2, n2) <|
    hear_desk_next_1_l1 p wide plots down right_ blows closed fu1 (k + 1))))
def hear_desk_next_1 (p : Int) (wide : Int) (plots : List Int) (down : Int) (right_ : Int) (blows : Bool) (closed : Int → Option Bool) : Option (List (Int × Int)) :=
    gd (R64 0 ∧ R64 4) <|
    hear_desk_next_1_l1 p wide plots down right_ blows closed (Int.toNat (4 - 0)) 0

/- (*oyez/hear.desk).next -/
def hear_desk_next (wide : Int) (plots : List Int) (down : Int) (right_ : Int) (blows : Bool) (p : Int) : Option (List (Int × Int)) :=
    b1 (hear_desk_next_1 p wide plots down right_ blows (fun x : Int => hear_Town_wall wide plots x)) fun l =>
    some l

/- (*oyez/hear.desk).from -/
def hear_desk_from_l1 : Nat → Int → (List Int) → Option (List Int)
  | 0, _k, out2 =>
    some out2
  | fu1 + 1, k, out2 =>
    ix out2 k fun _x =>
    bv (out2.set (k : Int).toNat (-1)) fun out3 =>
    hear_desk_from_l1 fu1 (k + 1) out3
def hear_desk_from_l3 (x3 : Int) (rec2 : (List Int) → (List Int) → Option (List Int)) : List (Int × Int) → (List Int) → (List Int) → Option (List Int)
  | [], out7, line3 =>
    rec2 out7 line3
  | x4 :: tl2, out7, line3 =>
    b1 (ix out7 x4.1 fun x5 =>
    if x5 = (-1) then
    (some true)
    else
    (ix out7 x3 fun x6 =>
    gd (R64 (x6 + x4.2)) <|
    some (decide ((x6 + x4.2) < x5)))) fun k2 =>
    if k2 = true then
    (ix out7 x3 fun x7 =>
    gd (R64 (x7 + x4.2)) <|
    ix out7 x4.1 fun _x8 =>
    bv (out7.set (x4.1 : Int).toNat (x7 + x4.2)) fun l2 =>
    ap line3 [x4.1] fun line4 =>
    hear_desk_from_l3 x3 rec2 tl2 l2 line4)
    else
    (hear_desk_from_l3 x3 rec2 tl2 out7 line3)
def hear_desk_from_l2 (wide : Int) (plots : List Int) (down : Int) (right_ : Int) (blows : Bool) : Nat → (List Int) → (List Int) → Option (List Int)
  | 0, _, _ => none
  | fu2 + 1, out6, line =>
    if 0 < (line.length : Int) then
    (ix line 0 fun x3 =>
    gd ((0 ≤ (1 : Int) ∧ (1 : Int) ≤ (line.length : Int)) ∧ (line.length : Int) ≤ line.length) <|
    bv (sl line 1 (line.length : Int)) fun line2 =>
    b1 (hear_desk_next wide plots down right_ blows x3) fun y =>
    hear_desk_from_l3 x3 (hear_desk_from_l2 wide plots down right_ blows fu2) y out6 line2)
    else
    (some out6)
def hear_desk_from (wide : Int) (plots : List Int) (down : Int) (right_ : Int) (blows : Bool) (stand : Int) : Option (List Int) :=
    gd (0 ≤ (plots.length : Int) ∧ (plots.length : Int) ≤ 1048576) <|
    bv (List.replicate ((plots.length : Int) : Int).toNat 0 : List Int) fun l =>
    b1 (gd (R64 0 ∧ R64 (l.length : Int)) <|
    hear_desk_from_l1 (Int.toNat ((l.length : Int) - 0)) 0 l) fun out =>
    ix out stand fun _x2 =>
    bv (out.set (stand : Int).toNat 0) fun out4 =>
    b1 (hear_desk_from_l2 wide plots down right_ blows FU out4 [stand]) fun out5 =>
    some out5

/- oyez/hear.Needs -/
def hear_Needs (wide : Int) (plots : List Int) (wind : Int) (stand : Int) : Option ((List Int) × Int) :=
    b2 (hear_standing wide plots wind stand) fun d n =>
    if n ≠ 0 then
    (some ([], n))
    else
    (b5 d fun wide2 plots2 down right_ blows =>
    b1 (hear_desk_from wide2 plots2 down right_ blows stand) fun l =>
    some (l, 0))

/- oyez/hear.Need -/
def hear_Need (wide : Int) (plots : List Int) (wind : Int) (stand : Int) (plot : Int) : Option (Int × Int) :=
    b2 (hear_Needs wide plots wind stand) fun l n =>
    if n ≠ 0 then
    (some (0, n))
    else
    (b1 (hear_Town_plot wide plots plot) fun ok =>
    if (!ok) = true then
    (some (0, 1))
    else
    (ix l plot fun x =>
    if x = (-1) then
    (some (0, 6))
    else
    (some (x, 0))))

/- slices.Equal[[]int,int] -/
def slices_Equal_int_int_j1 : Option Bool :=
    some true
def slices_Equal_int_int_l2 (s2 : List Int) : List Int → Int → Option Bool
  | [], _k =>
    slices_Equal_int_int_j1
  | x :: tl2, k =>
    ix s2 k fun x2 =>
    if x ≠ x2 then
    (some false)
    else
    (slices_Equal_int_int_l2 s2 tl2 (k + 1))
def slices_Equal_int_int (s1 : List Int) (s2 : List Int) : Option Bool :=
    if (s1.length : Int) ≠ (s2.length : Int) then
    (some false)
    else
    (slices_Equal_int_int_l2 s2 s1 0)

/- oyez/oyezkit.Like[int] -/
def oyezkit_Like_int (a : List Int) (b : List Int) : Option Bool :=
    b1 (slices_Equal_int_int a b) fun ok =>
    some ok

/- oyez/hear.Holds -/
def hear_Holds_j5 : Option (Bool × Int) :=
    some (false, 0)
def hear_Holds_j3 (k : Int) (rec2 : Int → Option (Bool × Int)) : Option (Bool × Int) :=
    rec2 (k + 1)
def hear_Holds_l4 (wide : Int) (plots : List Int) (table : List Int) (k : Int) (rec2 : Int → Option (Bool × Int)) : List (Int × Int) → Option (Bool × Int)
  | [] =>
    hear_Holds_j3 k rec2
  | x3 :: tl4 =>
    b1 (b1 (hear_Town_wall wide plots k) fun ok =>
    if (!ok) = true then
    (ix table x3.1 fun x4 =>
    ix table k fun x5 =>
    if x5 < x4 then
    (some (decide ((x3.2 % 18446744073709551616) < (((x4 % 18446744073709551616) - (x5 % 18446744073709551616)) % 18446744073709551616))))
    else
    (some false))
    else
    (some false)) fun k2 =>
    if k2 = true then
    hear_Holds_j5
    else
    hear_Holds_l4 wide plots table k rec2 tl4
def hear_Holds_j1 : Option (Bool × Int) :=
    some (true, 0)
def hear_Holds_l2 (wide : Int) (plots : List Int) (table : List Int) (d : Option (Int × (List Int) × Int × Int × Bool)) : List Int → Int → Option (Bool × Int)
  | [], _k =>
    hear_Holds_j1
  | _x2 :: tl2, k =>
    b5 d fun wide2 plots2 down right_ blows =>
    b1 (hear_desk_next wide2 plots2 down right_ blows k) fun y =>
    hear_Holds_l4 wide plots table k (hear_Holds_l2 wide plots table d tl2) y
def hear_Holds (wide : Int) (plots : List Int) (wind : Int) (stand : Int) (table : List Int) : Option (Bool × Int) :=
    b2 (hear_standing wide plots wind stand) fun d n =>
    if n ≠ 0 then
    (some (false, n))
    else
    (if (table.length : Int) ≠ (plots.length : Int) then
    (some (false, 2))
    else
    (ix table stand fun x =>
    if x ≠ 0 then
    (some (false, 0))
    else
    (hear_Holds_l2 wide plots table d plots 0)))

/- oyez/hear.CheckAir -/
def hear_CheckAir (wind : Int) (voice : Int) : Option Int :=
    b1 (b1 (hear_Dir_there wind) fun ok =>
    if (!ok) = true then
    (some true)
    else
    (b1 (hear_in voice 1 40) fun ok2 =>
    some (!ok2))) fun k =>
    if k = true then
    (some 3)
    else
    (some 0)

/- (*oyez/hear.desk).heard -/
def hear_desk_heard_l2 (plots : List Int) (voice : Int) (k : Int) : List Int → Int → (List (List Bool)) → Option (List (List Bool))
  | [], _k2, out4 =>
    some out4
  | x2 :: tl4, k2, out4 =>
    b1 (ix plots k2 fun x3 =>
    if x3 = 1 then
    (b1 (hear_in x2 0 voice) fun ok =>
    some ok)
    else
    (some false)) fun k3 =>
    if k3 = true then
    (ix out4 k2 fun x4 =>
    ix x4 k fun _x5 =>
    bv (out4.set (k2 : Int).toNat (x4.set (k : Int).toNat true)) fun out5 =>
    hear_desk_heard_l2 plots voice k tl4 (k2 + 1) out5)
    else
    (hear_desk_heard_l2 plots voice k tl4 (k2 + 1) out4)
def hear_desk_heard_l1 (wide : Int) (plots : List Int) (down : Int) (right_ : Int) (blows : Bool) (voice : Int) : List Int → Int → (List (List Bool)) → Option (List (List Bool))
  | [], _k, out2 =>
    some out2
  | x :: tl2, k, out2 =>
    b1 (if x ≠ 0 then
    (some out2)
    else
    (b1 (hear_desk_from wide plots down right_ blows k) fun l2 =>
    hear_desk_heard_l2 plots voice k l2 0 out2)) fun out3 =>
    hear_desk_heard_l1 wide plots down right_ blows voice tl2 (k + 1) out3
def hear_desk_heard (wide : Int) (plots : List Int) (down : Int) (right_ : Int) (blows : Bool) (voice : Int) : Option (List (List Bool)) :=
    gd (0 ≤ (plots.length : Int) ∧ (plots.length : Int) ≤ 1048576) <|
    bv (List.replicate ((plots.length : Int) : Int).toNat (List.replicate 30 false) : List (List Bool)) fun l =>
    b1 (hear_desk_heard_l1 wide plots down right_ blows voice plots 0 l) fun out =>
    some out

/- oyez/hear.aired -/
def hear_aired (wide : Int) (plots : List Int) (wind : Int) (voice : Int) : Option ((List (List Bool)) × Int) :=
    b1 (hear_Check wide plots) fun n =>
    if n ≠ 0 then
    (some ([], n))
    else
    (b1 (hear_CheckAir wind voice) fun n2 =>
    if n2 ≠ 0 then
    (some ([], n2))
    else
    (b2 (hear_opened wide plots wind) fun d _n3 =>
    b5 d fun wide2 plots2 down right_ blows =>
    b1 (hear_desk_heard wide2 plots2 down right_ blows voice) fun l =>
    some (l, 0)))

/- slices.Index[[]int,int] -/
def slices_Index_int_int_j1 : Option Int :=
    some (-1)
def slices_Index_int_int_l2 (v : Int) : List Int → Int → Option Int
  | [], _k =>
    slices_Index_int_int_j1
  | x :: tl2, k =>
    if v = x then
    (some k)
    else
    (slices_Index_int_int_l2 v tl2 (k + 1))
def slices_Index_int_int (s_ : List Int) (v : Int) : Option Int :=
    slices_Index_int_int_l2 v s_ 0

/- slices.Contains[[]int,int] -/
def slices_Contains_int_int (s_ : List Int) (v : Int) : Option Bool :=
    b1 (slices_Index_int_int s_ v) fun n =>
    some (decide (0 ≤ n))

/- (oyez/hear.Town).named -/
def hear_Town_named_j1 : Option Int :=
    some 0
def hear_Town_named_l2 (wide : Int) (plots : List Int) (houses : List Int) : List Int → Int → Option Int
  | [], _k =>
    hear_Town_named_j1
  | x :: tl2, k =>
    b1 (hear_Town_is wide plots x 1) fun n =>
    if n ≠ 0 then
    (some n)
    else
    (gd ((0 ≤ (0 : Int) ∧ (0 : Int) ≤ k) ∧ k ≤ houses.length) <|
    bv (sl houses 0 k) fun houses2 =>
    b1 (slices_Contains_int_int houses2 x) fun ok =>
    if ok = true then
    (some 5)
    else
    (hear_Town_named_l2 wide plots houses tl2 (k + 1)))
def hear_Town_named (wide : Int) (plots : List Int) (houses : List Int) : Option Int :=
    hear_Town_named_l2 wide plots houses houses 0

/- oyez/hear.ones -/
def hear_ones_l1 : Nat → Int → Int → Option Int
  | 0, _, _ => none
  | fu1 + 1, set_2, n2 =>
    if 0 < set_2 then
    (gd (R64 (n2 + (Int.tmod set_2 2))) <|
    gd ((2 : Int) ≠ 0 ∧ R64 (Int.tdiv set_2 2)) <|
    hear_ones_l1 fu1 (Int.tdiv set_2 2) (n2 + (Int.tmod set_2 2)))
    else
    (some n2)
def hear_ones (set_ : Int) : Option Int :=
    b1 (hear_ones_l1 FU set_ 0) fun n =>
    some n

/- oyez/hear.asked -/
def hear_asked_l1 (l : List (List Bool)) : List Int → (List (List Bool)) → Option (List (List Bool))
  | [], q_ears2 =>
    some q_ears2
  | x :: tl2, q_ears2 =>
    ix l x fun x2 =>
    ap q_ears2 [x2] fun l2 =>
    hear_asked_l1 l tl2 l2
def hear_asked (wide : Int) (plots : List Int) (wind : Int) (voice : Int) (houses : List Int) : Option ((List (List Bool)) × Bool × Int) :=
    b2 (hear_aired wide plots wind voice) fun l n =>
    if n ≠ 0 then
    (some ([], false, n))
    else
    (b1 (hear_Town_named wide plots houses) fun n2 =>
    if n2 ≠ 0 then
    (some ([], false, n2))
    else
    (b1 (hear_asked_l1 l houses []) fun q_ears =>
    some (q_ears, true, 0)))

/- (oyez/hear.quarter).by -/
def hear_quarter_by_l1 (stand : Int) : List (List Bool) → Int → Int → Option Int
  | [], _k, set_2 =>
    some set_2
  | x :: tl2, k, set_2 =>
    ix x stand fun x2 =>
    if x2 = true then
    (gd ((0 ≤ (k : Int) ∧ (k : Int) < 64) ∧ R64 (shl 1 k)) <|
    hear_quarter_by_l1 stand tl2 (k + 1) (bor set_2 (shl 1 k)))
    else
    (hear_quarter_by_l1 stand tl2 (k + 1) set_2)
def hear_quarter_by (ears : List (List Bool)) (_count : Int → Option Int) (stand : Int) : Option Int :=
    b1 (hear_quarter_by_l1 stand ears 0 0) fun set_ =>
    some set_

/- oyez/hear.least -/
def hear_least_l1 : List Int → Int → Option Int
  | [], n3 =>
    some n3
  | x :: tl2, n3 =>
    hear_least_l1 tl2 (if x < n3 then x else n3)
def hear_least (n : Int) (more : List Int) : Option Int :=
    b1 (hear_least_l1 more n) fun n2 =>
    some n2

/- (oyez/hear.quarter).chosen$1 -/
def hear_quarter_chosen_1B (rec_ : Int → Int → Int → (List (List Bool)) → (Int → Option Int) → (List ((Int × Int × Int) × Int)) → Option (Int × (List ((Int × Int × Int) × Int)))) (from_ : Int) (left_ : Int) (set_ : Int) (ears : List (List Bool)) (count : Int → Option Int) (met : List ((Int × Int × Int) × Int)) : Option (Int × (List ((Int × Int × Int) × Int))) :=
    b1 (if left_ = 0 then
    (some true)
    else
    (some (decide (from_ = 30)))) fun k =>
    if k = true then
    (b1 (count set_) fun n =>
    some (n, met))
    else
    (bv ((mget met (from_, left_, set_)).getD 0) fun n2 =>
    if ((mget met (from_, left_, set_)).isSome) = true then
    (some (n2, met))
    else
    (gd (R64 (from_ + 1)) <|
    b2 (rec_ (from_ + 1) left_ set_ ears count met) fun n3 met2 =>
    b2 (b1 (hear_quarter_by ears count from_) fun n5 =>
    if (bor set_ n5) ≠ set_ then
    (gd (R64 (from_ + 1)) <|
    gd (R64 (left_ - 1)) <|
    b2 (rec_ (from_ + 1) (left_ - 1) (bor set_ n5) ears count met2) fun n6 met3 =>
    some (met3, if n6 > n3 then n6 else n3))
    else
    (some (met2, n3))) fun m n4 =>
    bv (mput m (from_, left_, set_) n4) fun met4 =>
    some (n4, met4)))
def hear_quarter_chosen_1 : Nat → Int → Int → Int → (List (List Bool)) → (Int → Option Int) → (List ((Int × Int × Int) × Int)) → Option (Int × (List ((Int × Int × Int) × Int)))
  | 0, _, _, _, _, _, _ => none
  | fu + 1, from_, left_, set_, ears, count, met =>
    hear_quarter_chosen_1B (hear_quarter_chosen_1 fu) from_ left_ set_ ears count met

/- (oyez/hear.quarter).chosen -/
def hear_quarter_chosen_l1 (ears : List (List Bool)) (count : Int → Option Int) (n2 : Int) : Nat → (List ((Int × Int × Int) × Int)) → Int → Option ((List ((Int × Int × Int) × Int)) × Int)
  | 0, _, _ => none
  | fu1 + 1, m2, x_left2 =>
    b2 (hear_quarter_chosen_1 FU 0 x_left2 0 ears count m2) fun n3 met2 =>
    if n3 < n2 then
    (gd (R64 (x_left2 + 1)) <|
    hear_quarter_chosen_l1 ears count n2 fu1 met2 (x_left2 + 1))
    else
    (some (met2, x_left2))
def hear_quarter_chosen_l3 (ears : List (List Bool)) (count : Int → Option Int) (n2 : Int) (x_left3 : Int) (x_set : Int) : Nat → (List ((Int × Int × Int) × Int)) → Int → Option ((List ((Int × Int × Int) × Int)) × Int)
  | 0, _, _ => none
  | fu3 + 1, m5, x_from3 =>
    gd (R64 (x_from3 + 1)) <|
    gd (R64 (x_left3 - 1)) <|
    b1 (hear_quarter_by ears count x_from3) fun n4 =>
    b2 (hear_quarter_chosen_1 FU (x_from3 + 1) (x_left3 - 1) (bor x_set n4) ears count m5) fun n5 met3 =>
    if n5 < n2 then
    (gd (R64 (x_from3 + 1)) <|
    hear_quarter_chosen_l3 ears count n2 x_left3 x_set fu3 met3 (x_from3 + 1))
    else
    (some (met3, x_from3))
def hear_quarter_chosen_l2 (ears : List (List Bool)) (count : Int → Option Int) (n2 : Int) : Nat → (List ((Int × Int × Int) × Int)) → Int → Int → Int → (List Int) → Option (List Int)
  | 0, _, _, _, _, _ => none
  | fu2 + 1, m3, x_from, x_left3, x_set, out2 =>
    if 0 < x_left3 then
    (b2 (hear_quarter_chosen_l3 ears count n2 x_left3 x_set FU m3 x_from) fun m4 x_from2 =>
    ap out2 [x_from2] fun out3 =>
    gd (R64 (x_from2 + 1)) <|
    gd (R64 (x_left3 - 1)) <|
    b1 (hear_quarter_by ears count x_from2) fun n6 =>
    hear_quarter_chosen_l2 ears count n2 fu2 m4 (x_from2 + 1) (x_left3 - 1) (bor x_set n6) out3)
    else
    (some out2)
def hear_quarter_chosen (ears : List (List Bool)) (count : Int → Option Int) (most : Int) : Option ((List Int) × Int) :=
    b1 (hear_least most [(ears.length : Int)]) fun n =>
    b2 (hear_quarter_chosen_1 FU 0 n 0 ears count []) fun n2 met =>
    b2 (hear_quarter_chosen_l1 ears count n2 FU met 0) fun m x_left =>
    b1 (hear_quarter_chosen_l2 ears count n2 FU m 0 x_left 0 []) fun out =>
    some (out, n2)

/- oyez/hear.Louder -/
def hear_Louder_l1 (wide : Int) (plots : List Int) (wind : Int) (houses : List Int) (stands : Int) : Nat → Int → Option Int
  | 0, _k =>
    some 0
  | fu1 + 1, k =>
    b3 (hear_asked wide plots wind (k + 1) houses) fun l2 y2 _n2 =>
    gd (y2 = true) <|
    b2 (hear_quarter_chosen l2 (fun x : Int => hear_ones x) stands) fun _l3 n3 =>
    if n3 = (houses.length : Int) then
    (some (k + 1))
    else
    (hear_Louder_l1 wide plots wind houses stands fu1 (k + 1))
def hear_Louder (wide : Int) (plots : List Int) (wind : Int) (houses : List Int) (stands : Int) : Option (Int × Int) :=
    b3 (hear_asked wide plots wind 40 houses) fun _l _y n =>
    if n ≠ 0 then
    (some (0, n))
    else
    (b1 (hear_in stands 0 30) fun ok =>
    if (!ok) = true then
    (some (0, 3))
    else
    (b1 (gd (R64 0 ∧ R64 40) <|
    hear_Louder_l1 wide plots wind houses stands (Int.toNat (40 - 0)) 0) fun out =>
    if out = 0 then
    (some (0, 6))
    else
    (some (out, 0))))

/- slices.Reverse[[]int,int] -/
def slices_Reverse_int_int_l1 : Nat → (List Int) → Int → Int → Option (List Int)
  | 0, _, _, _ => none
  | fu1 + 1, s_2, i, j =>
    if i < j then
    (ix s_2 j fun x =>
    ix s_2 i fun x2 =>
    bv (s_2.set (i : Int).toNat x) fun l =>
    ix l j fun _x3 =>
    bv (l.set (j : Int).toNat x2) fun l2 =>
    gd (R64 (i + 1)) <|
    gd (R64 (j - 1)) <|
    slices_Reverse_int_int_l1 fu1 l2 (i + 1) (j - 1))
    else
    (some s_2)
def slices_Reverse_int_int (s_ : List Int) : Option (List Int) :=
    gd (R64 ((s_.length : Int) - 1)) <|
    slices_Reverse_int_int_l1 FU s_ 0 ((s_.length : Int) - 1)

/- oyez/hear.Way -/
def hear_Way_l3 (l : List Int) (p : Int) (k : Int) : List (Int × Int) → Int → Option Int
  | [], before4 =>
    some before4
  | x2 :: tl4, before4 =>
    b1 (if x2.1 = p then
    (ix l k fun x3 =>
    if x3 ≠ (-1) then
    (gd (R64 (x3 + x2.2)) <|
    ix l p fun x4 =>
    some (decide ((x3 + x2.2) = x4)))
    else
    (some false))
    else
    (some false)) fun k2 =>
    if k2 = true then
    (hear_Way_l3 l p k tl4 k)
    else
    (hear_Way_l3 l p k tl4 before4)
def hear_Way_l2 (wide2 : Int) (plots2 : List Int) (down : Int) (right_ : Int) (blows : Bool) (l : List Int) (p : Int) : List Int → Int → Int → Option Int
  | [], _k, before2 =>
    some before2
  | _x :: tl2, k, before2 =>
    b1 (b1 (hear_desk_next wide2 plots2 down right_ blows k) fun y =>
    hear_Way_l3 l p k y before2) fun before3 =>
    hear_Way_l2 wide2 plots2 down right_ blows l p tl2 (k + 1) before3
def hear_Way_l1 (plots : List Int) (stand : Int) (wide2 : Int) (plots2 : List Int) (down : Int) (right_ : Int) (blows : Bool) (l : List Int) : Nat → (List Int) → Int → Option (List Int)
  | 0, _, _ => none
  | fu1 + 1, out2, p =>
    if p ≠ stand then
    (b2 (b1 (hear_Way_l2 wide2 plots2 down right_ blows l p plots 0 (-1)) fun before =>
    ap out2 [before] fun out4 =>
    some (out4, before)) fun out3 p2 =>
    hear_Way_l1 plots stand wide2 plots2 down right_ blows l fu1 out3 p2)
    else
    (some out2)
def hear_Way (wide : Int) (plots : List Int) (wind : Int) (stand : Int) (plot : Int) : Option ((List Int) × Int) :=
    b2 (hear_Need wide plots wind stand plot) fun _n n2 =>
    if n2 ≠ 0 then
    (some ([], n2))
    else
    (b2 (hear_opened wide plots wind) fun d _n3 =>
    b5 d fun wide2 plots2 down right_ blows =>
    b1 (hear_desk_from wide2 plots2 down right_ blows stand) fun l =>
    b1 (hear_Way_l1 plots stand wide2 plots2 down right_ blows l FU [plot] plot) fun out =>
    b1 (slices_Reverse_int_int out) fun s_ =>
    some (s_, 0))

/- slices.Index[[]oyez/hear.ears,oyez/hear.ears] -/
def slices_Index_hear_ears_hear_ears_j1 : Option Int :=
    some (-1)
def slices_Index_hear_ears_hear_ears_l2 (v : List Bool) : List (List Bool) → Int → Option Int
  | [], _k =>
    slices_Index_hear_ears_hear_ears_j1
  | x :: tl2, k =>
    if v = x then
    (some k)
    else
    (slices_Index_hear_ears_hear_ears_l2 v tl2 (k + 1))
def slices_Index_hear_ears_hear_ears (s_ : List (List Bool)) (v : List Bool) : Option Int :=
    slices_Index_hear_ears_hear_ears_l2 v s_ 0

/- slices.Contains[[]oyez/hear.ears,oyez/hear.ears] -/
def slices_Contains_hear_ears_hear_ears (s_ : List (List Bool)) (v : List Bool) : Option Bool :=
    b1 (slices_Index_hear_ears_hear_ears s_ v) fun n =>
    some (decide (0 ≤ n))

/- (oyez/hear.quarter).deaf -/
def hear_quarter_deaf (ears : List (List Bool)) (_count : Int → Option Int) : Option Bool :=
    b1 (slices_Contains_hear_ears_hear_ears ears (List.replicate 30 false)) fun ok =>
    some ok

/- slices.Compact[[]oyez/hear.ears,oyez/hear.ears] -/
def slices_Compact_hear_ears_hear_ears_l4 (k : Int) : Nat → (List (List Bool)) → Int → Int → Option ((List (List Bool)) × Int)
  | 0, _, _, _ => none
  | fu4 + 1, s_3, k3, k2_2 =>
    if k2_2 < ((s_3.length - Int.toNat k : Nat) : Int) then
    (ix (s_3.drop (Int.toNat k)) k2_2 fun x3 =>
    gd (R64 (k2_2 - 1)) <|
    ix (s_3.drop (Int.toNat k)) (k2_2 - 1) fun x4 =>
    if x3 ≠ x4 then
    (ix s_3 k3 fun _x5 =>
    bv (s_3.set (k3 : Int).toNat x3) fun s_4 =>
    gd (R64 (k3 + 1)) <|
    gd (R64 (k2_2 + 1)) <|
    slices_Compact_hear_ears_hear_ears_l4 k fu4 s_4 (k3 + 1) (k2_2 + 1))
    else
    (gd (R64 (k2_2 + 1)) <|
    slices_Compact_hear_ears_hear_ears_l4 k fu4 s_3 k3 (k2_2 + 1)))
    else
    (some (s_3, k3))
def slices_Compact_hear_ears_hear_ears_j3 (k : Int) (rec2 : Int → Option (List (List Bool))) : Option (List (List Bool)) :=
    rec2 (k + 1)
def slices_Compact_hear_ears_hear_ears_j1 (s_ : List (List Bool)) : Option (List (List Bool)) :=
    some s_
def slices_Compact_hear_ears_hear_ears_l2 (s_ : List (List Bool)) : Nat → Int → Option (List (List Bool))
  | 0, _k =>
    slices_Compact_hear_ears_hear_ears_j1 s_
  | fu2 + 1, k =>
    ix s_ k fun x =>
    gd (R64 (k - 1)) <|
    ix s_ (k - 1) fun x2 =>
    if x = x2 then
    (gd (0 ≤ k ∧ k ≤ (s_.length : Int)) <|
    b2 (slices_Compact_hear_ears_hear_ears_l4 k FU s_ k 1) fun s_2 k2 =>
    gd (0 ≤ k2 ∧ k2 ≤ (s_2.length : Int)) <|
    bv (s_2.take (Int.toNat k2) ++ List.replicate (s_2.length - Int.toNat k2) (List.replicate 30 false) : List (List Bool)) fun s_5 =>
    gd ((0 ≤ (0 : Int) ∧ (0 : Int) ≤ k2) ∧ k2 ≤ s_5.length) <|
    bv (sl s_5 0 k2) fun s_6 =>
    some s_6)
    else
    slices_Compact_hear_ears_hear_ears_j3 k (slices_Compact_hear_ears_hear_ears_l2 s_ fu2)
def slices_Compact_hear_ears_hear_ears (s_ : List (List Bool)) : Option (List (List Bool)) :=
    if (s_.length : Int) < 2 then
    (some s_)
    else
    (gd (R64 1 ∧ R64 (s_.length : Int)) <|
    slices_Compact_hear_ears_hear_ears_l2 s_ (Int.toNat ((s_.length : Int) - 1)) 1)

/- slices.Clone[[]oyez/hear.ears,oyez/hear.ears] -/
def slices_Clone_hear_ears_hear_ears (s_ : List (List Bool)) : Option (List (List Bool)) :=
    nilIf (s_ = []) (some []) (ap ([] : List (List Bool)) s_ fun l =>
    some l)

/- oyez/hear.Fewest -/
def hear_Fewest (wide : Int) (plots : List Int) (wind : Int) (voice : Int) (houses : List Int) : Option ((List Int) × Int) :=
    b3 (hear_asked wide plots wind voice houses) fun l y n =>
    if n ≠ 0 then
    (some ([], n))
    else
    (gd (y = true) <|
    b1 (hear_quarter_deaf l (fun x : Int => hear_ones x)) fun ok =>
    if ok = true then
    (some ([], 6))
    else
    (b1 (slices_Clone_hear_ears_hear_ears l) fun l2 =>
    b1 (slices_Compact_hear_ears_hear_ears l2) fun l3 =>
    b2 (hear_quarter_chosen l3 (fun x : Int => hear_ones x) (l3.length : Int)) fun l4 _n2 =>
    some (l4, 0)))

/- oyez/oyezlaw01.Drawn -/
def oyezlaw01_Drawn_l2 (x : List Int) : Nat → (List Int) → Nat → Option (List Int)
  | 0, _, _ => none
  | fu2 + 1, t_plots4, pos =>
    if pos < x.length then
    (ix x (pos : Nat) fun c =>
    gd (0 ≤ c ∧ c < 128) <|
    b1 (if c = 115 then
    (some 0)
    else
    (some 2)) fun p =>
    b1 (if c = 104 then
    (some 1)
    else
    (some p)) fun p2 =>
    ap t_plots4 [p2] fun t =>
    oyezlaw01_Drawn_l2 x fu2 t (pos + 1))
    else
    (some t_plots4)
def oyezlaw01_Drawn_l1 : List (List Int) → Int → (List Int) → Option (Int × (List Int))
  | [], t_wide2, t_plots2 =>
    some (t_wide2, t_plots2)
  | x :: tl2, _t_wide2, t_plots2 =>
    b1 (oyezlaw01_Drawn_l2 x FU t_plots2 0) fun t_plots3 =>
    oyezlaw01_Drawn_l1 tl2 (x.length : Int) t_plots3
def oyezlaw01_Drawn (rows : List (List Int)) : Option (Int × (List Int)) :=
    b2 (oyezlaw01_Drawn_l1 rows 0 []) fun t_wide t_plots =>
    some (t_wide, t_plots)

/- oyez/oyezlaw01.awake -/
def oyezlaw01_awake : Option Bool :=
    b2 (oyezlaw01_Drawn [[115, 104, 115, 104]]) fun n l =>
    b2 (oyezlaw01_Drawn [[104, 115, 104], [115, 119, 115]]) fun n2 l2 =>
    b2 (hear_Needs n l 4 0) fun l3 n3 =>
    b2 (hear_Fewest n l 0 5 [1, 3]) fun l4 n4 =>
    b2 (hear_Fewest n2 l2 0 3 [0, 2]) fun l5 n5 =>
    b2 (hear_Holds n2 l2 0 1 [3, 0, 3, 5, 0, 5]) fun ok n6 =>
    b1 (if n3 ≠ 0 then
    (some true)
    else
    (if n4 ≠ 0 then
    (some true)
    else
    (if n5 ≠ 0 then
    (some true)
    else
    (if n6 ≠ 0 then
    (some true)
    else
    (if (!ok) = true then
    (some true)
    else
    (b1 (oyezkit_Like_int l3 [0, 5, 9, 14]) fun ok2 =>
    if (!ok2) = true then
    (some true)
    else
    (b1 (oyezkit_Like_int l4 [2]) fun ok3 =>
    if (!ok3) = true then
    (some true)
    else
    (b1 (oyezkit_Like_int l5 [1]) fun ok4 =>
    some (!ok4))))))))) fun k =>
    if k = true then
    (some false)
    else
    (b2 (hear_Louder n l 2 [1, 3] 1) fun n7 n8 =>
    b2 (hear_Way n2 l2 0 3 2) fun l6 n9 =>
    b2 (oyezlaw01_Drawn [[115, 104, 119, 104]]) fun n10 l7 =>
    b2 (hear_Need n10 l7 0 0 3) fun _n11 n12 =>
    if n8 = 0 then
    (if n9 = 0 then
    (if n7 = 5 then
    (b1 (oyezkit_Like_int l6 [3, 0, 1, 2]) fun ok5 =>
    if ok5 = true then
    (some (decide (n12 = 6)))
    else
    (some false))
    else
    (some false))
    else
    (some false))
    else
    (some false))

/- oyez/oyezkit.Copy[oyez/hear.Plot] -/
def oyezkit_Copy_Plot (l : List Int) : Option (List Int) :=
    gd (0 ≤ (l.length : Int) ∧ (l.length : Int) ≤ 1048576) <|
    bv (List.replicate ((l.length : Int) : Int).toNat 0 : List Int) fun l2 =>
    bv (cpy l2 l) fun out =>
    some out

/- oyez/oyezlaw01.Own -/
def oyezlaw01_Own (wide : Int) (plots : List Int) : Option (Int × (List Int)) :=
    b1 (oyezkit_Copy_Plot plots) fun l =>
    some (wide, l)

/- oyez/oyezkit.Copy[int] -/
def oyezkit_Copy_int (l : List Int) : Option (List Int) :=
    gd (0 ≤ (l.length : Int) ∧ (l.length : Int) ≤ 1048576) <|
    bv (List.replicate ((l.length : Int) : Int).toNat 0 : List Int) fun l2 =>
    bv (cpy l2 l) fun out =>
    some out

/- oyez/oyezlaw01.theirs -/
def oyezlaw01_theirs_l1 : List Int → (List Int) → Option (List Int)
  | [], out_plots2 =>
    some out_plots2
  | x :: tl2, out_plots2 =>
    ap out_plots2 [x] fun out =>
    oyezlaw01_theirs_l1 tl2 out
def oyezlaw01_theirs (wide : Int) (plots : List Int) : Option (Int × (List Int)) :=
    b1 (oyezlaw01_theirs_l1 plots []) fun out_plots =>
    some (wide, out_plots)

/- oyez/oyezref01.off -/
def oyezref01_off (n : Int) (lo : Int) (hi : Int) : Option Bool :=
    if n < lo then
    (some true)
    else
    (some (decide (hi < n)))

/- oyez/oyezref01.Check -/
def oyezref01_Check_l3 : List Int → Int → Option Int
  | [], houses2 =>
    some houses2
  | x2 :: tl4, houses2 =>
    if x2 = 1 then
    (gd (R64 (houses2 + 1)) <|
    oyezref01_Check_l3 tl4 (houses2 + 1))
    else
    (oyezref01_Check_l3 tl4 houses2)
def oyezref01_Check_j1 (plots : List Int) : Option Int :=
    b1 (oyezref01_Check_l3 plots 0) fun houses =>
    if 10 < houses then
    (some 2)
    else
    (some 0)
def oyezref01_Check_l2 (plots : List Int) : List Int → Option Int
  | [] =>
    oyezref01_Check_j1 plots
  | x :: tl2 =>
    b1 (oyezref01_off x 0 2) fun ok3 =>
    if ok3 = true then
    (some 3)
    else
    (oyezref01_Check_l2 plots tl2)
def oyezref01_Check (wide : Int) (plots : List Int) : Option Int :=
    b1 (b1 (oyezref01_off wide 1 6) fun ok =>
    if ok = true then
    (some true)
    else
    (b1 (oyezref01_off (plots.length : Int) 1 30) fun ok2 =>
    if ok2 = true then
    (some true)
    else
    (gd (wide ≠ 0) <|
    some (decide ((Int.tmod (plots.length : Int) wide) ≠ 0))))) fun k =>
    if k = true then
    (some 2)
    else
    (oyezref01_Check_l2 plots plots)

/- oyez/oyezref01.Is -/
def oyezref01_Is (_wide : Int) (plots : List Int) (p : Int) (kind : Int) : Option Int :=
    gd (R64 ((plots.length : Int) - 1)) <|
    b1 (oyezref01_off p 0 ((plots.length : Int) - 1)) fun ok =>
    if ok = true then
    (some 1)
    else
    (ix plots p fun x =>
    if x ≠ kind then
    (some 8)
    else
    (some 0))

/- oyez/oyezref01.Stand -/
def oyezref01_Stand (wide : Int) (plots : List Int) (wind : Int) (stand : Int) : Option Int :=
    b1 (oyezref01_Check wide plots) fun n =>
    if n ≠ 0 then
    (some n)
    else
    (b1 (oyezref01_off wind 0 4) fun ok =>
    if ok = true then
    (some 3)
    else
    (b1 (oyezref01_Is wide plots stand 0) fun n2 =>
    some n2))

/- oyez/oyezref01.Step -/
def oyezref01_Step (wide : Int) (plots : List Int) (wind : Int) (p : Int) (q : Int) : Option Int :=
    b1 (gd (R64 ((plots.length : Int) - 1)) <|
    b1 (oyezref01_off q 0 ((plots.length : Int) - 1)) fun ok =>
    if ok = true then
    (some true)
    else
    (gd (R64 ((plots.length : Int) - 1)) <|
    b1 (oyezref01_off p 0 ((plots.length : Int) - 1)) fun ok2 =>
    if ok2 = true then
    (some true)
    else
    (ix plots q fun x =>
    if x = 2 then
    (some true)
    else
    (ix plots p fun x2 =>
    some (decide (x2 = 2)))))) fun k =>
    if k = true then
    (some 0)
    else
    (gd ((wide : Int) ≠ 0 ∧ R64 (Int.tdiv q wide)) <|
    gd ((wide : Int) ≠ 0 ∧ R64 (Int.tdiv p wide)) <|
    gd (R64 ((Int.tdiv q wide) - (Int.tdiv p wide))) <|
    bv ((Int.tdiv q wide) - (Int.tdiv p wide)) fun down =>
    gd (wide ≠ 0) <|
    gd (wide ≠ 0) <|
    gd (R64 ((Int.tmod q wide) - (Int.tmod p wide))) <|
    bv ((Int.tmod q wide) - (Int.tmod p wide)) fun right_ =>
    gd (R64 (down * down)) <|
    gd (R64 (right_ * right_)) <|
    gd (R64 ((down * down) + (right_ * right_))) <|
    if ((down * down) + (right_ * right_)) ≠ 1 then
    (some 0)
    else
    (b1 (if wind = 1 then
    (gd (R64 (-down)) <|
    some (-down))
    else
    (if wind = 2 then
    (some right_)
    else
    (if wind = 3 then
    (some down)
    else
    (if wind = 4 then
    (gd (R64 (-right_)) <|
    some (-right_))
    else
    (some 0))))) fun along =>
    b1 (if along = 1 then
    (some 1)
    else
    (some 2)) fun n =>
    b1 (if along = (-1) then
    (some 4)
    else
    (some n)) fun n2 =>
    ix plots q fun x3 =>
    gd (R64 (n2 + (Int.tmod x3 2))) <|
    some (n2 + (Int.tmod x3 2))))

/- oyez/oyezref01.Needs -/
def oyezref01_Needs_l1 : Nat → (List Int) → Int → Option (List Int)
  | 0, _, _ => none
  | fu1 + 1, out2, p =>
    if p < (out2.length : Int) then
    (ix out2 p fun _x =>
    bv (out2.set (p : Int).toNat (-1)) fun out3 =>
    gd (R64 (p + 1)) <|
    oyezref01_Needs_l1 fu1 out3 (p + 1))
    else
    (some out2)
def oyezref01_Needs_l4 (wide : Int) (plots : List Int) (wind : Int) (p2 : Int) : Nat → (List Int) → Bool → Int → Option ((List Int) × Bool)
  | 0, _, _, _ => none
  | fu4 + 1, out9, changed4, q =>
    if q < (out9.length : Int) then
    (b1 (oyezref01_Step wide plots wind p2 q) fun n2 =>
    b1 (if 0 < n2 then
    (ix out9 p2 fun x3 =>
    if 0 ≤ x3 then
    (ix out9 q fun x4 =>
    if x4 < 0 then
    (some true)
    else
    (gd (R64 (x3 + n2)) <|
    some (decide ((x3 + n2) < x4))))
    else
    (some false))
    else
    (some false)) fun k =>
    if k = true then
    (ix out9 p2 fun x5 =>
    gd (R64 (x5 + n2)) <|
    ix out9 q fun _x6 =>
    bv (out9.set (q : Int).toNat (x5 + n2)) fun out10 =>
    gd (R64 (q + 1)) <|
    oyezref01_Needs_l4 wide plots wind p2 fu4 out10 true (q + 1))
    else
    (gd (R64 (q + 1)) <|
    oyezref01_Needs_l4 wide plots wind p2 fu4 out9 changed4 (q + 1)))
    else
    (some (out9, changed4))
def oyezref01_Needs_l3 (wide : Int) (plots : List Int) (wind : Int) (rec2 : (List Int) → Bool → Option (List Int)) : Nat → (List Int) → Bool → Int → Option (List Int)
  | 0, _, _, _ => none
  | fu3 + 1, out7, changed2, p2 =>
    if p2 < (out7.length : Int) then
    (b2 (oyezref01_Needs_l4 wide plots wind p2 FU out7 changed2 0) fun out8 changed3 =>
    gd (R64 (p2 + 1)) <|
    oyezref01_Needs_l3 wide plots wind rec2 fu3 out8 changed3 (p2 + 1))
    else
    (rec2 out7 changed2)
def oyezref01_Needs_l2 (wide : Int) (plots : List Int) (wind : Int) : Nat → (List Int) → Bool → Option (List Int)
  | 0, _, _ => none
  | fu2 + 1, out6, changed =>
    if changed = true then
    (oyezref01_Needs_l3 wide plots wind (oyezref01_Needs_l2 wide plots wind fu2) FU out6 false 0)
    else
    (some out6)
def oyezref01_Needs (wide : Int) (plots : List Int) (wind : Int) (stand : Int) : Option ((List Int) × Int) :=
    b1 (oyezref01_Stand wide plots wind stand) fun n =>
    if n ≠ 0 then
    (some ([], n))
    else
    (gd (0 ≤ (plots.length : Int) ∧ (plots.length : Int) ≤ 1048576) <|
    bv (List.replicate ((plots.length : Int) : Int).toNat 0 : List Int) fun l =>
    b1 (oyezref01_Needs_l1 FU l 0) fun out =>
    ix out stand fun _x2 =>
    bv (out.set (stand : Int).toNat 0) fun out4 =>
    b1 (oyezref01_Needs_l2 wide plots wind FU out4 true) fun out5 =>
    some (out5, 0))

/- oyez/oyezref01.Need -/
def oyezref01_Need (wide : Int) (plots : List Int) (wind : Int) (stand : Int) (plot : Int) : Option (Int × Int) :=
    b2 (oyezref01_Needs wide plots wind stand) fun l n =>
    if n ≠ 0 then
    (some (0, n))
    else
    (gd (R64 ((plots.length : Int) - 1)) <|
    b1 (oyezref01_off plot 0 ((plots.length : Int) - 1)) fun ok =>
    if ok = true then
    (some (0, 1))
    else
    (ix l plot fun x =>
    if x < 0 then
    (some (0, 6))
    else
    (some (x, 0))))

/- oyez/oyezref01.above -/
def oyezref01_above_j1 (a : Int) (b2 : Int) : Option Bool :=
    some (decide (b2 < a))
def oyezref01_above_l2 (a : Int) : Nat → Int → Option Bool
  | 0, b3 =>
    oyezref01_above_j1 a b3
  | fu2 + 1, b3 =>
    if a ≤ b3 then
    (some false)
    else
    (gd (R64 (b3 + 1)) <|
    oyezref01_above_l2 a fu2 (b3 + 1))
def oyezref01_above (a : Int) (b : Int) (n : Int) : Option Bool :=
    gd (R64 0 ∧ R64 n) <|
    oyezref01_above_l2 a (Int.toNat (n - 0)) b

/- oyez/oyezref01.Holds -/
def oyezref01_Holds_j3 (p : Int) (rec2 : Int → Option (Bool × Int)) : Option (Bool × Int) :=
    rec2 (p + 1)
def oyezref01_Holds_l4 (wide : Int) (plots : List Int) (wind : Int) (p : Int) (x2 : Int) (rec2 : Int → Option (Bool × Int)) : List Int → Int → Option (Bool × Int)
  | [], _q =>
    oyezref01_Holds_j3 p rec2
  | x3 :: tl4, q =>
    b1 (oyezref01_Step wide plots wind p q) fun n2 =>
    b1 (if 0 < n2 then
    (b1 (oyezref01_above x3 x2 n2) fun ok =>
    some ok)
    else
    (some false)) fun k =>
    if k = true then
    (some (false, 0))
    else
    (oyezref01_Holds_l4 wide plots wind p x2 rec2 tl4 (q + 1))
def oyezref01_Holds_j1 : Option (Bool × Int) :=
    some (true, 0)
def oyezref01_Holds_l2 (wide : Int) (plots : List Int) (wind : Int) (table : List Int) : List Int → Int → Option (Bool × Int)
  | [], _p =>
    oyezref01_Holds_j1
  | x2 :: tl2, p =>
    oyezref01_Holds_l4 wide plots wind p x2 (oyezref01_Holds_l2 wide plots wind table tl2) table 0
def oyezref01_Holds (wide : Int) (plots : List Int) (wind : Int) (stand : Int) (table : List Int) : Option (Bool × Int) :=
    b1 (oyezref01_Stand wide plots wind stand) fun n =>
    if n ≠ 0 then
    (some (false, n))
    else
    (if (table.length : Int) ≠ (plots.length : Int) then
    (some (false, 2))
    else
    (ix table stand fun x =>
    if x ≠ 0 then
    (some (false, 0))
    else
    (oyezref01_Holds_l2 wide plots wind table table 0)))

/- slices.Equal[[]oyez/hear.Plot,oyez/hear.Plot] -/
def slices_Equal_hear_Plot_hear_Plot_j1 : Option Bool :=
    some true
def slices_Equal_hear_Plot_hear_Plot_l2 (s2 : List Int) : List Int → Int → Option Bool
  | [], _k =>
    slices_Equal_hear_Plot_hear_Plot_j1
  | x :: tl2, k =>
    ix s2 k fun x2 =>
    if x ≠ x2 then
    (some false)
    else
    (slices_Equal_hear_Plot_hear_Plot_l2 s2 tl2 (k + 1))
def slices_Equal_hear_Plot_hear_Plot (s1 : List Int) (s2 : List Int) : Option Bool :=
    if (s1.length : Int) ≠ (s2.length : Int) then
    (some false)
    else
    (slices_Equal_hear_Plot_hear_Plot_l2 s2 s1 0)

/- oyez/oyezkit.Like[oyez/hear.Plot] -/
def oyezkit_Like_Plot (a : List Int) (b : List Int) : Option Bool :=
    b1 (slices_Equal_hear_Plot_hear_Plot a b) fun ok =>
    some ok

/- oyez/oyezlaw01.same -/
def oyezlaw01_same (wide : Int) (plots : List Int) (wide2 : Int) (plots2 : List Int) : Option Bool :=
    if wide = wide2 then
    (b1 (oyezkit_Like_Plot plots plots2) fun ok =>
    some ok)
    else
    (some false)

/- oyez/oyezlaw01.HearNeeds -/
def oyezlaw01_HearNeeds (wide : Int) (plots : List Int) (wind : Int) (stand : Int) (plot : Int) (table : List Int) : Option Bool :=
    b1 (b1 (oyezlaw01_great wide plots) fun ok =>
    if ok = true then
    (some true)
    else
    (some (decide (40 < (table.length : Int))))) fun k =>
    if k = true then
    (b1 (oyezlaw01_awake) fun ok2 =>
    some ok2)
    else
    (b2 (oyezlaw01_Own wide plots) fun n l =>
    b1 (oyezkit_Copy_int table) fun l2 =>
    b2 (oyezlaw01_theirs wide plots) fun n2 l3 =>
    b2 (hear_Need n l wind stand plot) fun n3 n4 =>
    b2 (oyezref01_Need n2 l3 wind stand plot) fun n5 n6 =>
    b1 (if n3 ≠ n5 then
    (some true)
    else
    (some (decide (n4 ≠ n6)))) fun k2 =>
    if k2 = true then
    (some false)
    else
    (b2 (hear_Needs n l wind stand) fun l4 n7 =>
    b2 (oyezref01_Needs n2 l3 wind stand) fun l5 n8 =>
    b1 (if n7 ≠ n8 then
    (some true)
    else
    (b1 (oyezkit_Like_int l4 l5) fun ok3 =>
    some (!ok3))) fun k3 =>
    if k3 = true then
    (some false)
    else
    (b2 (hear_Holds n l wind stand l2) fun ok4 n9 =>
    b2 (oyezref01_Holds n2 l3 wind stand table) fun ok5 n10 =>
    if ok4 = ok5 then
    (if n9 = n10 then
    (b1 (oyezlaw01_same n l wide plots) fun ok6 =>
    if ok6 = true then
    (b1 (oyezkit_Like_int l2 table) fun ok7 =>
    if ok7 = true then
    (b1 (oyezlaw01_awake) fun ok8 =>
    some ok8)
    else
    (some false))
    else
    (some false))
    else
    (some false))
    else
    (some false))))

/- oyez/oyezlaw01.many -/
def oyezlaw01_many_l1 : List Int → Int → Option Int
  | [], n2 =>
    some n2
  | x :: tl2, n2 =>
    if x = 0 then
    (gd (R64 (n2 + 1)) <|
    oyezlaw01_many_l1 tl2 (n2 + 1))
    else
    (oyezlaw01_many_l1 tl2 n2)
def oyezlaw01_many (wide : Int) (plots : List Int) (most : Int) : Option Bool :=
    b1 (oyezlaw01_many_l1 plots 0) fun n =>
    b1 (oyezlaw01_great wide plots) fun ok =>
    if ok = true then
    (some true)
    else
    (if most < n then
    (some (decide ((plots.length : Int) ≤ 30)))
    else
    (some false))

/- oyez/hear.Best -/
def hear_Best (wide : Int) (plots : List Int) (wind : Int) (voice : Int) (houses : List Int) (stands : Int) : Option ((List Int) × Int × Int) :=
    b3 (hear_asked wide plots wind voice houses) fun l y n =>
    if n ≠ 0 then
    (some ([], 0, n))
    else
    (b1 (hear_in stands 0 30) fun ok =>
    if (!ok) = true then
    (some ([], 0, 3))
    else
    (gd (y = true) <|
    b2 (hear_quarter_chosen l (fun x : Int => hear_ones x) stands) fun l2 n2 =>
    some (l2, n2, 0)))

/- oyez/oyezref01.CheckAir -/
def oyezref01_CheckAir (wind : Int) (voice : Int) : Option Int :=
    b1 (b1 (oyezref01_off wind 0 4) fun ok =>
    if ok = true then
    (some true)
    else
    (b1 (oyezref01_off voice 1 40) fun ok2 =>
    some ok2)) fun k =>
    if k = true then
    (some 3)
    else
    (some 0)

/- oyez/oyezref01.has -/
def oyezref01_has_j1 : Option Bool :=
    some false
def oyezref01_has_l2 (n : Int) : List Int → Option Bool
  | [] =>
    oyezref01_has_j1
  | x :: tl2 =>
    if x = n then
    (some true)
    else
    (oyezref01_has_l2 n tl2)
def oyezref01_has (l : List Int) (n : Int) : Option Bool :=
    oyezref01_has_l2 n l

/- oyez/oyezref01.Asked -/
def oyezref01_Asked_j1 : Option Int :=
    some 0
def oyezref01_Asked_l2 (wide : Int) (plots : List Int) (houses : List Int) : List Int → Int → Option Int
  | [], _i =>
    oyezref01_Asked_j1
  | x :: tl2, i =>
    b1 (oyezref01_Is wide plots x 1) fun n3 =>
    if n3 ≠ 0 then
    (some n3)
    else
    (gd ((0 ≤ (0 : Int) ∧ (0 : Int) ≤ i) ∧ i ≤ houses.length) <|
    bv (sl houses 0 i) fun houses2 =>
    b1 (oyezref01_has houses2 x) fun ok =>
    if ok = true then
    (some 5)
    else
    (oyezref01_Asked_l2 wide plots houses tl2 (i + 1)))
def oyezref01_Asked (wide : Int) (plots : List Int) (wind : Int) (voice : Int) (houses : List Int) : Option Int :=
    b1 (oyezref01_Check wide plots) fun n =>
    if n ≠ 0 then
    (some n)
    else
    (b1 (oyezref01_CheckAir wind voice) fun n2 =>
    if n2 ≠ 0 then
    (some n2)
    else
    (oyezref01_Asked_l2 wide plots houses houses 0))

/- oyez/oyezref01.Ears -/
def oyezref01_Ears_l2 (plots : List Int) (voice : Int) (s_ : Int) : List Int → Int → (List (List Int)) → Option (List (List Int))
  | [], _p, out4 =>
    some out4
  | x2 :: tl4, p, out4 =>
    b1 (ix plots p fun x3 =>
    if x3 = 1 then
    (if 0 ≤ x2 then
    (some (decide (x2 ≤ voice)))
    else
    (some false))
    else
    (some false)) fun k =>
    if k = true then
    (ix out4 p fun x4 =>
    ap x4 [s_] fun l3 =>
    bv (out4.set (p : Int).toNat l3) fun out5 =>
    oyezref01_Ears_l2 plots voice s_ tl4 (p + 1) out5)
    else
    (oyezref01_Ears_l2 plots voice s_ tl4 (p + 1) out4)
def oyezref01_Ears_l1 (wide : Int) (plots : List Int) (wind : Int) (voice : Int) : List Int → Int → (List (List Int)) → Option (List (List Int))
  | [], _s_, out2 =>
    some out2
  | x :: tl2, s_, out2 =>
    b1 (if x ≠ 0 then
    (some out2)
    else
    (b2 (oyezref01_Needs wide plots wind s_) fun l2 _n =>
    oyezref01_Ears_l2 plots voice s_ l2 0 out2)) fun out3 =>
    oyezref01_Ears_l1 wide plots wind voice tl2 (s_ + 1) out3
def oyezref01_Ears (wide : Int) (plots : List Int) (wind : Int) (voice : Int) : Option (List (List Int)) :=
    gd (0 ≤ (plots.length : Int) ∧ (plots.length : Int) ≤ 1048576) <|
    bv (List.replicate ((plots.length : Int) : Int).toNat [] : List (List Int)) fun l =>
    b1 (oyezref01_Ears_l1 wide plots wind voice plots 0 l) fun out =>
    some out

/- oyez/oyezref01.Lists -/
def oyezref01_ListsB_l2 (x : Int) : List (List Int) → (List (List Int)) → Option (List (List Int))
  | [], out4 =>
    some out4
  | x2 :: tl4, out4 =>
    ap [x] x2 fun l2 =>
    ap out4 [l2] fun l3 =>
    oyezref01_ListsB_l2 x tl4 l3
def oyezref01_ListsB_l1 (of_ : List Int) (many : Int) (rec_ : (List Int) → Int → Option ((List (List Int)))) : List Int → Int → (List (List Int)) → Option (List (List Int))
  | [], _i, out2 =>
    some out2
  | x :: tl2, i, out2 =>
    b1 (gd ((0 ≤ (i + 1) ∧ (i + 1) ≤ (of_.length : Int)) ∧ (of_.length : Int) ≤ of_.length) <|
    bv (sl of_ (i + 1) (of_.length : Int)) fun of_2 =>
    gd (R64 (many - 1)) <|
    b1 (rec_ of_2 (many - 1)) fun l =>
    oyezref01_ListsB_l2 x l out2) fun out3 =>
    oyezref01_ListsB_l1 of_ many rec_ tl2 (i + 1) out3
def oyezref01_ListsB (rec_ : (List Int) → Int → Option ((List (List Int)))) (of_ : List Int) (many : Int) : Option (List (List Int)) :=
    if many = 0 then
    (some [[]])
    else
    (b1 (oyezref01_ListsB_l1 of_ many rec_ of_ 0 []) fun out =>
    some out)
def oyezref01_Lists : Nat → (List Int) → Int → Option (List (List Int))
  | 0, _, _ => none
  | fu + 1, of_, many =>
    oyezref01_ListsB (oyezref01_Lists fu) of_ many

/- oyez/oyezref01.streets -/
def oyezref01_streets_l1 : List Int → Int → (List Int) → Option (List Int)
  | [], _p, out2 =>
    some out2
  | x :: tl2, p, out2 =>
    if x = 0 then
    (ap out2 [p] fun out3 =>
    oyezref01_streets_l1 tl2 (p + 1) out3)
    else
    (oyezref01_streets_l1 tl2 (p + 1) out2)
def oyezref01_streets (_wide : Int) (plots : List Int) : Option (List Int) :=
    b1 (oyezref01_streets_l1 plots 0 []) fun out =>
    some out

/- oyez/oyezref01.served -/
def oyezref01_served_l2 (ears : List (List Int)) (x : Int) : List Int → Bool → Option Bool
  | [], is_2 =>
    some is_2
  | x2 :: tl4, is_2 =>
    if is_2 = true then
    (oyezref01_served_l2 ears x tl4 true)
    else
    (ix ears x fun x3 =>
    b1 (oyezref01_has x3 x2) fun ok =>
    oyezref01_served_l2 ears x tl4 ok)
def oyezref01_served_l1 (ears : List (List Int)) (stands : List Int) : List Int → Int → Option Int
  | [], n2 =>
    some n2
  | x :: tl2, n2 =>
    b1 (b1 (oyezref01_served_l2 ears x stands false) fun is_ =>
    if is_ = true then
    (gd (R64 (n2 + 1)) <|
    some (n2 + 1))
    else
    (some n2)) fun n3 =>
    oyezref01_served_l1 ears stands tl2 n3
def oyezref01_served (ears : List (List Int)) (houses : List Int) (stands : List Int) : Option Int :=
    b1 (oyezref01_served_l1 ears stands houses 0) fun n =>
    some n

/- oyez/oyezref01.Best -/
def oyezref01_Best_l2 (houses : List Int) (l : List (List Int)) : List (List Int) → (List Int) → Int → Option ((List Int) × Int)
  | [], best4, n4 =>
    some (best4, n4)
  | x :: tl2, best4, n4 =>
    b1 (oyezref01_served l houses x) fun n5 =>
    if n4 < n5 then
    (oyezref01_Best_l2 houses l tl2 x n5)
    else
    (oyezref01_Best_l2 houses l tl2 best4 n4)
def oyezref01_Best_l1 (wide : Int) (plots : List Int) (houses : List Int) (most : Int) (l : List (List Int)) : Nat → (List Int) → Int → Int → Option ((List Int) × Int)
  | 0, _, _, _ => none
  | fu1 + 1, best2, n2, many =>
    b1 (if many ≤ most then
    (some (decide (many ≤ (houses.length : Int))))
    else
    (some false)) fun k =>
    if k = true then
    (b2 (b1 (oyezref01_streets wide plots) fun l2 =>
    b1 (oyezref01_Lists FU l2 many) fun l3 =>
    oyezref01_Best_l2 houses l l3 best2 n2) fun best3 n3 =>
    gd (R64 (many + 1)) <|
    oyezref01_Best_l1 wide plots houses most l fu1 best3 n3 (many + 1))
    else
    (some (best2, n2))
def oyezref01_Best (wide : Int) (plots : List Int) (wind : Int) (voice : Int) (houses : List Int) (most : Int) : Option ((List Int) × Int) :=
    b1 (oyezref01_Ears wide plots wind voice) fun l =>
    b2 (oyezref01_Best_l1 wide plots houses most l FU [] 0 1) fun best n =>
    some (best, n)

/- oyez/oyezref01.Louder -/
def oyezref01_Louder_j1 : Option Int :=
    some 0
def oyezref01_Louder_l2 (wide : Int) (plots : List Int) (wind : Int) (houses : List Int) (most : Int) : Nat → Int → Option Int
  | 0, _ => none
  | fu2 + 1, voice =>
    if voice ≤ 40 then
    (b2 (oyezref01_Best wide plots wind voice houses most) fun _l n =>
    if n = (houses.length : Int) then
    (some voice)
    else
    (gd (R64 (voice + 1)) <|
    oyezref01_Louder_l2 wide plots wind houses most fu2 (voice + 1)))
    else
    oyezref01_Louder_j1
def oyezref01_Louder (wide : Int) (plots : List Int) (wind : Int) (houses : List Int) (most : Int) : Option Int :=
    oyezref01_Louder_l2 wide plots wind houses most FU 1

/- oyez/oyezlaw01.HearBest -/
def oyezlaw01_HearBest (wide : Int) (plots : List Int) (wind : Int) (voice : Int) (houses : List Int) (stands : Int) : Option Bool :=
    b1 (b1 (oyezlaw01_many wide plots 8) fun ok =>
    if ok = true then
    (some true)
    else
    (some (decide (12 < (houses.length : Int))))) fun k =>
    if k = true then
    (b1 (oyezlaw01_awake) fun ok2 =>
    some ok2)
    else
    (b2 (oyezlaw01_Own wide plots) fun n l =>
    b1 (oyezkit_Copy_int houses) fun l2 =>
    b2 (oyezlaw01_theirs wide plots) fun n2 l3 =>
    b3 (hear_Best n l wind voice l2 stands) fun l4 n3 n4 =>
    b2 (hear_Louder n l wind l2 stands) fun n5 n6 =>
    b1 (oyezref01_Asked n2 l3 wind voice houses) fun n7 =>
    b1 (oyezref01_Asked n2 l3 wind 1 houses) fun n8 =>
    b2 (b1 (if stands < 0 then
    (some true)
    else
    (some (decide (30 < stands)))) fun k2 =>
    if k2 = true then
    (b1 (if n7 = 0 then
    (some 3)
    else
    (some n7)) fun w2 =>
    if n8 = 0 then
    (some (w2, 3))
    else
    (some (w2, n8)))
    else
    (some (n7, n8))) fun w u =>
    b3 (if w = 0 then
    (b2 (oyezref01_Best n2 l3 wind voice houses stands) fun l5 n9 =>
    some (l3, l5, n9))
    else
    (some (l3, [], 0))) fun x_plots best k3 =>
    b2 (if u = 0 then
    (b1 (oyezref01_Louder n2 x_plots wind houses stands) fun n10 =>
    if n10 = 0 then
    (some (6, n10))
    else
    (some (u, n10)))
    else
    (some (u, 0))) fun u2 loud =>
    if n4 = w then
    (if n6 = u2 then
    (if n3 = k3 then
    (if n5 = loud then
    (b1 (oyezkit_Like_int l4 best) fun ok3 =>
    if ok3 = true then
    (b1 (oyezlaw01_same n l wide plots) fun ok4 =>
    if ok4 = true then
    (b1 (oyezkit_Like_int l2 houses) fun ok5 =>
    if ok5 = true then
    (b1 (oyezlaw01_awake) fun ok6 =>
    some ok6)
    else
    (some false))
    else
    (some false))
    else
    (some false))
    else
    (some false))
    else
    (some false))
    else
    (some false))
    else
    (some false))

/- oyez/hear.Walled -/
def hear_Walled (wide : Int) (plots : List Int) (plot : Int) : Option (Int × (List Int) × Int) :=
    b1 (hear_Check wide plots) fun n =>
    if n ≠ 0 then
    (some (0, [], n))
    else
    (b1 (hear_Town_is wide plots plot 0) fun n2 =>
    if n2 ≠ 0 then
    (some (0, [], n2))
    else
    (gd (0 ≤ (plots.length : Int) ∧ (plots.length : Int) ≤ 1048576) <|
    bv (List.replicate ((plots.length : Int) : Int).toNat 0 : List Int) fun l =>
    bv (cpy l plots) fun out =>
    ix out plot fun _x =>
    bv (out.set (plot : Int).toNat 2) fun out2 =>
    some (wide, out2, 0)))

/- oyez/oyezref01.Walled -/
def oyezref01_Walled (wide : Int) (plots : List Int) (plot : Int) : Option (Int × (List Int) × Int) :=
    b1 (oyezref01_Check wide plots) fun n =>
    if n ≠ 0 then
    (some (0, [], n))
    else
    (b1 (oyezref01_Is wide plots plot 0) fun n2 =>
    if n2 ≠ 0 then
    (some (0, [], n2))
    else
    (ap ([] : List Int) plots fun l =>
    ix l plot fun _x =>
    bv (l.set (plot : Int).toNat 2) fun out =>
    some (wide, out, 0)))

/- oyez/oyezlaw01.HearTowns -/
def oyezlaw01_HearTowns (wide : Int) (plots : List Int) (wind : Int) (voice : Int) (plot : Int) : Option Bool :=
    b1 (oyezlaw01_great wide plots) fun ok =>
    if ok = true then
    (b1 (oyezlaw01_awake) fun ok2 =>
    some ok2)
    else
    (b2 (oyezlaw01_Own wide plots) fun n l =>
    b2 (oyezlaw01_theirs wide plots) fun n2 l2 =>
    b1 (b1 (hear_Check n l) fun n3 =>
    b1 (oyezref01_Check n2 l2) fun n4 =>
    if n3 ≠ n4 then
    (some true)
    else
    (b1 (hear_CheckAir wind voice) fun n5 =>
    b1 (oyezref01_CheckAir wind voice) fun n6 =>
    some (decide (n5 ≠ n6)))) fun k =>
    if k = true then
    (some false)
    else
    (b3 (hear_Walled n l plot) fun n7 l3 n8 =>
    b3 (oyezref01_Walled n2 l2 plot) fun n9 l4 n10 =>
    b1 (if n8 ≠ n10 then
    (some true)
    else
    (if n7 ≠ n9 then
    (some true)
    else
    (b2 (oyezlaw01_theirs n7 l3) fun _n11 l5 =>
    b1 (oyezkit_Like_int l5 l4) fun ok3 =>
    some (!ok3)))) fun k2 =>
    if k2 = true then
    (some false)
    else
    (bv (List.replicate l3.length 0 : List Int) fun _u =>
    b1 (oyezlaw01_same n l wide plots) fun ok4 =>
    if ok4 = true then
    (b1 (oyezlaw01_awake) fun ok5 =>
    some ok5)
    else
    (some false))))

/- oyez/oyezkit.Hang -/
def oyezkit_Hang (metal : List Int) : Option ((List Int) × Int × Int) :=
    some (metal, 0, 0)

/- (*oyez/oyezkit.Bell).ring -/
def oyezkit_Bell_ring (metal : List Int) (at_ : Int) (turn : Int) : Option (Int × Int × Int) :=
    b2 (if at_ = (metal.length : Int) then
    (some (0, (turn + 1) % 4294967296))
    else
    (some (at_, turn))) fun b_at b_turn =>
    bv ((30011 * b_turn) % 4294967296) fun n =>
    b2 (if 0 < (metal.length : Int) then
    (ix metal b_at fun x =>
    bv ((n + ((263 * (x % 4294967296)) % 4294967296)) % 4294967296) fun n3 =>
    gd (R64 (b_at + 1)) <|
    some (n3, b_at + 1))
    else
    (some (n, b_at))) fun n2 b_at2 =>
    gd (R64 (bandK 32 (bxorK 32 n2 (shr n2 7)) 65535)) <|
    some (bandK 32 (bxorK 32 n2 (shr n2 7)) 65535, b_at2, b_turn)

/- (*oyez/oyezkit.Bell).Stroke -/
def oyezkit_Bell_Stroke (metal : List Int) (at_ : Int) (turn : Int) (n : Int) : Option (Int × Int × Int) :=
    b3 (oyezkit_Bell_ring metal at_ turn) fun n2 at_2 turn2 =>
    gd (R64 (n + 1)) <|
    gd ((if n + 1 > 1 then n + 1 else 1) ≠ 0) <|
    some (Int.tmod n2 (if n + 1 > 1 then n + 1 else 1), at_2, turn2)

/- (*oyez/oyezkit.Bell).Strike -/
def oyezkit_Bell_Strike (metal : List Int) (at_ : Int) (turn : Int) (lo : Int) (hi : Int) : Option (Int × Int × Int) :=
    gd (R64 (hi - lo)) <|
    b3 (oyezkit_Bell_Stroke metal at_ turn (hi - lo)) fun n at_2 turn2 =>
    gd (R64 (lo + n)) <|
    some (lo + n, at_2, turn2)

/- oyez/oyezlaw01.Made -/
def oyezlaw01_Made_l1 (metal : List Int) : Nat → Int → Int → (List Int) → Int → Option (Int × Int × (List Int))
  | 0, b_at2, b_turn2, t_plots2, _left_ =>
    some (b_at2, b_turn2, t_plots2)
  | fu1 + 1, b_at2, b_turn2, t_plots2, left_ =>
    b3 (oyezkit_Bell_Stroke metal b_at2 b_turn2 5) fun n3 at_4 turn4 =>
    ix [0, 0, 0, 1, 1, 2] n3 fun x =>
    b2 (if x = 1 then
    (gd (R64 (left_ - 1)) <|
    if (left_ - 1) < 0 then
    (some (left_ - 1, 0))
    else
    (some (left_ - 1, x)))
    else
    (some (left_, x))) fun left_2 p =>
    ap t_plots2 [p] fun t =>
    oyezlaw01_Made_l1 metal fu1 at_4 turn4 t left_2
def oyezlaw01_Made (metal : List Int) (at_ : Int) (turn : Int) (plots : Int) : Option (Int × (List Int) × Int × Int) :=
    b3 (oyezkit_Bell_Strike metal at_ turn 1 6) fun n at_2 turn2 =>
    gd ((n : Int) ≠ 0 ∧ R64 (Int.tdiv plots n)) <|
    b3 (oyezkit_Bell_Strike metal at_2 turn2 1 (if Int.tdiv plots n > 1 then Int.tdiv plots n else 1)) fun n2 at_3 turn3 =>
    b3 (gd (R64 (n2 * n)) <|
    gd (R64 0 ∧ R64 (n2 * n)) <|
    oyezlaw01_Made_l1 metal (Int.toNat ((n2 * n) - 0)) at_3 turn3 [] 10) fun b_at b_turn t_plots =>
    gd (R64 ((t_plots.length : Int) - 1)) <|
    b3 (oyezkit_Bell_Stroke metal b_at b_turn ((t_plots.length : Int) - 1)) fun n4 at_5 turn5 =>
    ix t_plots n4 fun _x2 =>
    bv (t_plots.set (n4 : Int).toNat 0) fun l =>
    some (n, l, at_5, turn5)

/- oyez/oyezlaw01.Aired -/
def oyezlaw01_Aired (metal : List Int) (at_ : Int) (turn : Int) : Option (Int × Int × Int × Int) :=
    b3 (oyezkit_Bell_Stroke metal at_ turn 4) fun n at_2 turn2 =>
    b3 (oyezkit_Bell_Strike metal at_2 turn2 1 16) fun n2 at_3 turn3 =>
    some (n, n2, at_3, turn3)

/- oyez/oyezlaw01.streets -/
def oyezlaw01_streets_l1 : List Int → Int → (List Int) → Option (List Int)
  | [], _k, out2 =>
    some out2
  | x :: tl2, k, out2 =>
    if x = 0 then
    (ap out2 [k] fun out3 =>
    oyezlaw01_streets_l1 tl2 (k + 1) out3)
    else
    (oyezlaw01_streets_l1 tl2 (k + 1) out2)
def oyezlaw01_streets (_wide : Int) (plots : List Int) : Option (List Int) :=
    b1 (oyezlaw01_streets_l1 plots 0 []) fun out =>
    some out

/- oyez/hear.Winds -/
def hear_Winds_l3 (wide : Int) (plots : List Int) (voice : Int) (stand : Int) (house : Int) : Nat → (List Int) → Int → Option (List Int)
  | 0, _, _ => none
  | fu3 + 1, out2, w =>
    if w ≤ 4 then
    (b2 (hear_Need wide plots w stand house) fun n5 n6 =>
    b1 (if n6 = 0 then
    (some (decide (n5 ≤ voice)))
    else
    (some false)) fun k2 =>
    if k2 = true then
    (ap out2 [w] fun out3 =>
    gd (R64 (w + 1)) <|
    hear_Winds_l3 wide plots voice stand house fu3 out3 (w + 1))
    else
    (gd (R64 (w + 1)) <|
    hear_Winds_l3 wide plots voice stand house fu3 out2 (w + 1)))
    else
    (some out2)
def hear_Winds_j1 (wide : Int) (plots : List Int) (voice : Int) (stand : Int) (house : Int) : Option ((List Int) × Int) :=
    b1 (hear_Winds_l3 wide plots voice stand house FU [] 0) fun out =>
    some (out, 0)
def hear_Winds_l2 (wide : Int) (plots : List Int) (voice : Int) (stand : Int) (house : Int) (n3 : Int) (n4 : Int) : Nat → Int → Option ((List Int) × Int)
  | 0, _k =>
    hear_Winds_j1 wide plots voice stand house
  | fu2 + 1, k =>
    ix [n3, n4] k fun x =>
    if x ≠ 0 then
    (some ([], x))
    else
    (hear_Winds_l2 wide plots voice stand house n3 n4 fu2 (k + 1))
def hear_Winds (wide : Int) (plots : List Int) (voice : Int) (stand : Int) (house : Int) : Option ((List Int) × Int) :=
    b1 (hear_Check wide plots) fun n =>
    if n ≠ 0 then
    (some ([], n))
    else
    (b1 (hear_CheckAir 0 voice) fun n2 =>
    if n2 ≠ 0 then
    (some ([], n2))
    else
    (b1 (hear_Town_is wide plots stand 0) fun n3 =>
    b1 (hear_Town_is wide plots house 1) fun n4 =>
    gd (R64 0 ∧ R64 2) <|
    hear_Winds_l2 wide plots voice stand house n3 n4 (Int.toNat (2 - 0)) 0))

/- slices.Index[[]oyez/hear.Dir,oyez/hear.Dir] -/
def slices_Index_hear_Dir_hear_Dir_j1 : Option Int :=
    some (-1)
def slices_Index_hear_Dir_hear_Dir_l2 (v : Int) : List Int → Int → Option Int
  | [], _k =>
    slices_Index_hear_Dir_hear_Dir_j1
  | x :: tl2, k =>
    if v = x then
    (some k)
    else
    (slices_Index_hear_Dir_hear_Dir_l2 v tl2 (k + 1))
def slices_Index_hear_Dir_hear_Dir (s_ : List Int) (v : Int) : Option Int :=
    slices_Index_hear_Dir_hear_Dir_l2 v s_ 0

/- slices.Contains[[]oyez/hear.Dir,oyez/hear.Dir] -/
def slices_Contains_hear_Dir_hear_Dir (s_ : List Int) (v : Int) : Option Bool :=
    b1 (slices_Index_hear_Dir_hear_Dir s_ v) fun n =>
    some (decide (0 ≤ n))

/- oyez/oyezlaw01.HearBack -/
def oyezlaw01_HearBack_j3 (rec2 : Option Bool) : Option Bool :=
    rec2
def oyezlaw01_HearBack_l4 (n : Int) (l : List Int) (n2 : Int) (n3 : Int) (back : Int) (x : Int) (l4 : List Int) (rec2 : Option Bool) : List Int → Int → Option Bool
  | [], _k3 =>
    oyezlaw01_HearBack_j3 rec2
  | x2 :: tl4, k3 =>
    b1 (ix l4 k3 fun x3 =>
    if (decide (x2 = (-1))) ≠ (decide (x3 = (-1))) then
    (some true)
    else
    (gd (R64 (2 * x3)) <|
    if (2 * x3) < x2 then
    (if 0 ≤ x3 then
    (some true)
    else
    (gd (R64 (2 * x2)) <|
    if (2 * x2) < x3 then
    (some (decide (0 ≤ x2)))
    else
    (some false)))
    else
    (gd (R64 (2 * x2)) <|
    if (2 * x2) < x3 then
    (some (decide (0 ≤ x2)))
    else
    (some false)))) fun k4 =>
    if k4 = true then
    (some false)
    else
    (ix l k3 fun x4 =>
    if x4 = 0 then
    (b2 (hear_Need n l back k3 x) fun n6 n7 =>
    b1 (if x2 = (-1) then
    (if n7 ≠ 6 then
    (some true)
    else
    (if x2 ≠ (-1) then
    (if n7 ≠ 0 then
    (some true)
    else
    (some (decide (n6 ≠ x2))))
    else
    (some false)))
    else
    (if x2 ≠ (-1) then
    (if n7 ≠ 0 then
    (some true)
    else
    (some (decide (n6 ≠ x2))))
    else
    (some false))) fun k5 =>
    if k5 = true then
    (some false)
    else
    (oyezlaw01_HearBack_l4 n l n2 n3 back x l4 rec2 tl4 (k3 + 1)))
    else
    (if x4 = 1 then
    (b2 (hear_Winds n l n3 x k3) fun l5 n8 =>
    b1 (if n8 ≠ 0 then
    (some true)
    else
    (b1 (slices_Contains_hear_Dir_hear_Dir l5 n2) fun ok =>
    if 0 ≤ x2 then
    (if ok ≠ (decide (x2 ≤ n3)) then
    (some true)
    else
    (b1 (slices_Contains_hear_Dir_hear_Dir l5 0) fun ok2 =>
    ix l4 k3 fun x5 =>
    if 0 ≤ x5 then
    (some (decide (ok2 ≠ (decide (x5 ≤ n3)))))
    else
    (some (decide (ok2 ≠ false)))))
    else
    (if ok ≠ false then
    (some true)
    else
    (b1 (slices_Contains_hear_Dir_hear_Dir l5 0) fun ok3 =>
    ix l4 k3 fun x6 =>
    if 0 ≤ x6 then
    (some (decide (ok3 ≠ (decide (x6 ≤ n3)))))
    else
    (some (decide (ok3 ≠ false))))))) fun k6 =>
    if k6 = true then
    (some false)
    else
    (oyezlaw01_HearBack_l4 n l n2 n3 back x l4 rec2 tl4 (k3 + 1)))
    else
    (oyezlaw01_HearBack_l4 n l n2 n3 back x l4 rec2 tl4 (k3 + 1))))
def oyezlaw01_HearBack_j1 : Option Bool :=
    b1 (oyezlaw01_awake) fun ok4 =>
    some ok4
def oyezlaw01_HearBack_l2 (n : Int) (l : List Int) (n2 : Int) (n3 : Int) (back : Int) : List Int → Option Bool
  | [] =>
    oyezlaw01_HearBack_j1
  | x :: tl2 =>
    b2 (hear_Needs n l n2 x) fun l3 n4 =>
    b2 (hear_Needs n l 0 x) fun l4 n5 =>
    b1 (if n4 ≠ 0 then
    (some true)
    else
    (if n5 ≠ 0 then
    (some true)
    else
    (if (l3.length : Int) ≠ (l.length : Int) then
    (some true)
    else
    (some (decide ((l4.length : Int) ≠ (l.length : Int))))))) fun k2 =>
    if k2 = true then
    (some false)
    else
    (oyezlaw01_HearBack_l4 n l n2 n3 back x l4 (oyezlaw01_HearBack_l2 n l n2 n3 back tl2) l3 0)
def oyezlaw01_HearBack (numbers : List Int) : Option Bool :=
    b3 (oyezkit_Hang numbers) fun metal at_ turn =>
    b4 (oyezlaw01_Made metal at_ turn 24) fun n l at_2 turn2 =>
    b4 (oyezlaw01_Aired metal at_2 turn2) fun n2 n3 _at_3 _turn3 =>
    b1 (if n2 ≠ 0 then
    (gd (R64 (n2 + 1)) <|
    gd (R64 (1 + (Int.tmod (n2 + 1) 4))) <|
    some (1 + (Int.tmod (n2 + 1) 4)))
    else
    (some 0)) fun back =>
    b1 (oyezlaw01_streets n l) fun l2 =>
    oyezlaw01_HearBack_l2 n l n2 n3 back l2

/- oyez/hear.Takes -/
def hear_Takes_l4 (x2 : Int) : List (Int × Int) → Int → Option Int
  | [], needs2 =>
    some needs2
  | x4 :: tl4, needs2 =>
    if x4.1 = x2 then
    (hear_Takes_l4 x2 tl4 x4.2)
    else
    (hear_Takes_l4 x2 tl4 needs2)
def hear_Takes_j3 (k : Int) (rec2 : Int → Int → Option (Int × Int)) (sum3 : Int) : Option (Int × Int) :=
    rec2 (k + 1) sum3
def hear_Takes_j1 (sum : Int) : Option (Int × Int) :=
    some (sum, 0)
def hear_Takes_l2 (way : List Int) (d : Option (Int × (List Int) × Int × Int × Bool)) : List Int → Int → Int → Option (Int × Int)
  | [], _k, sum2 =>
    hear_Takes_j1 sum2
  | x2 :: tl2, k, sum2 =>
    b1 (ix way k fun x3 =>
    b5 d fun wide2 plots2 down right_ blows =>
    b1 (hear_desk_next wide2 plots2 down right_ blows x3) fun y =>
    hear_Takes_l4 x2 y (-1)) fun needs =>
    if needs = (-1) then
    (some (0, 8))
    else
    (gd (R64 (sum2 + needs)) <|
    hear_Takes_j3 k (hear_Takes_l2 way d tl2) (sum2 + needs))
def hear_Takes (wide : Int) (plots : List Int) (wind : Int) (way : List Int) : Option (Int × Int) :=
    b2 (hear_opened wide plots wind) fun d n =>
    if n ≠ 0 then
    (some (0, n))
    else
    (if (way.length : Int) = 0 then
    (some (0, 2))
    else
    (ix way 0 fun x =>
    b1 (hear_Town_is wide plots x 0) fun n2 =>
    if n2 ≠ 0 then
    (some (0, 8))
    else
    (gd ((0 ≤ (1 : Int) ∧ (1 : Int) ≤ (way.length : Int)) ∧ (way.length : Int) ≤ way.length) <|
    bv (sl way 1 (way.length : Int)) fun way2 =>
    hear_Takes_l2 way d way2 0 0)))

/- oyez/oyezref01.Takes -/
def oyezref01_Takes_j1 (sum : Int) : Option (Int × Int) :=
    some (sum, 0)
def oyezref01_Takes_l2 (wide : Int) (plots : List Int) (wind : Int) (way : List Int) : Nat → Int → Int → Option (Int × Int)
  | 0, _i, sum2 =>
    oyezref01_Takes_j1 sum2
  | fu2 + 1, i, sum2 =>
    gd (R64 (i - 1)) <|
    ix way (i - 1) fun x2 =>
    ix way i fun x3 =>
    b1 (oyezref01_Step wide plots wind x2 x3) fun n3 =>
    if n3 = 0 then
    (some (0, 8))
    else
    (gd (R64 (sum2 + n3)) <|
    oyezref01_Takes_l2 wide plots wind way fu2 (i + 1) (sum2 + n3))
def oyezref01_Takes (wide : Int) (plots : List Int) (wind : Int) (way : List Int) : Option (Int × Int) :=
    b1 (oyezref01_Check wide plots) fun n =>
    if n ≠ 0 then
    (some (0, n))
    else
    (b1 (oyezref01_off wind 0 4) fun ok =>
    if ok = true then
    (some (0, 3))
    else
    (if (way.length : Int) = 0 then
    (some (0, 2))
    else
    (ix way 0 fun x =>
    b1 (oyezref01_Is wide plots x 0) fun n2 =>
    if n2 ≠ 0 then
    (some (0, 8))
    else
    (gd (R64 1 ∧ R64 (way.length : Int)) <|
    oyezref01_Takes_l2 wide plots wind way (Int.toNat ((way.length : Int) - 1)) 1 0))))

/- oyez/oyezlaw01.HearWays -/
def oyezlaw01_HearWays_j1 (wide : Int) (plots : List Int) (way : List Int) (n : Int) (l : List Int) (l2 : List Int) : Option Bool :=
    b1 (oyezlaw01_same n l wide plots) fun ok3 =>
    if ok3 = true then
    (b1 (oyezkit_Like_int l2 way) fun ok4 =>
    if ok4 = true then
    (b1 (oyezlaw01_awake) fun ok5 =>
    some ok5)
    else
    (some false))
    else
    (some false)
def oyezlaw01_HearWays (wide : Int) (plots : List Int) (wind : Int) (stand : Int) (plot : Int) (way : List Int) : Option Bool :=
    b1 (b1 (oyezlaw01_great wide plots) fun ok =>
    if ok = true then
    (some true)
    else
    (some (decide (60 < (way.length : Int))))) fun k =>
    if k = true then
    (b1 (oyezlaw01_awake) fun ok2 =>
    some ok2)
    else
    (b2 (oyezlaw01_Own wide plots) fun n l =>
    b1 (oyezkit_Copy_int way) fun l2 =>
    b2 (oyezlaw01_theirs wide plots) fun n2 l3 =>
    b2 (hear_Takes n l wind l2) fun n3 n4 =>
    b2 (oyezref01_Takes n2 l3 wind way) fun n5 n6 =>
    b1 (if n3 ≠ n5 then
    (some true)
    else
    (some (decide (n4 ≠ n6)))) fun k2 =>
    if k2 = true then
    (some false)
    else
    (b2 (hear_Way n l wind stand plot) fun l4 n7 =>
    b2 (oyezref01_Need n2 l3 wind stand plot) fun n8 n9 =>
    b1 (if n7 ≠ n9 then
    (some true)
    else
    (if n7 ≠ 0 then
    (some (decide (0 < (l4.length : Int))))
    else
    (some false))) fun k3 =>
    if k3 = true then
    (some false)
    else
    (if n7 = 0 then
    (b2 (oyezref01_Takes n2 l3 wind l4) fun n10 n11 =>
    b1 (if n11 ≠ 0 then
    (some true)
    else
    (if n10 ≠ n8 then
    (some true)
    else
    (ix l4 0 fun x =>
    if x ≠ stand then
    (some true)
    else
    (gd (R64 ((l4.length : Int) - 1)) <|
    ix l4 ((l4.length : Int) - 1) fun x2 =>
    some (decide (x2 ≠ plot)))))) fun k4 =>
    if k4 = true then
    (some false)
    else
    oyezlaw01_HearWays_j1 wide plots way n l l2)
    else
    oyezlaw01_HearWays_j1 wide plots way n l l2)))

/- oyez/oyezlaw01.HearProved -/
def oyezlaw01_HearProved_l6 (metal2 : List Int) : Nat → Int → Int → (List Int) → Option (Int × Int × (List Int))
  | 0, q_at4, q_turn4, table2 =>
    some (q_at4, q_turn4, table2)
  | fu6 + 1, q_at4, q_turn4, table2 =>
    gd (R64 ((table2.length : Int) - 1)) <|
    b3 (oyezkit_Bell_Stroke metal2 q_at4 q_turn4 ((table2.length : Int) - 1)) fun n11 at_7 turn7 =>
    ix table2 n11 fun x5 =>
    b3 (oyezkit_Bell_Strike metal2 at_7 turn7 (-4) 4) fun n12 at_8 turn8 =>
    gd (R64 (x5 + n12)) <|
    bv (table2.set (n11 : Int).toNat (x5 + n12)) fun l6 =>
    oyezlaw01_HearProved_l6 metal2 fu6 at_8 turn8 l6
def oyezlaw01_HearProved_j5 (rec4 : Int → Int → Option Bool) (q_at2 : Int) (q_turn2 : Int) : Option Bool :=
    rec4 q_at2 q_turn2
def oyezlaw01_HearProved_l9 (metal2 : List Int) (n : Int) (l : List Int) (n2 : Int) (l3 : List Int) (rec4 : Int → Int → Option Bool) : Nat → Int → Int → (List Int) → Option Bool
  | 0, q_at5, q_turn5, _way =>
    oyezlaw01_HearProved_j5 rec4 q_at5 q_turn5
  | fu9 + 1, q_at5, q_turn5, way =>
    gd (R64 ((way.length : Int) - 1)) <|
    ix way ((way.length : Int) - 1) fun x8 =>
    gd (R64 (-n)) <|
    b3 (oyezkit_Bell_Stroke metal2 q_at5 q_turn5 3) fun n15 at_10 turn10 =>
    ix [-1, 1, -n, n] n15 fun x9 =>
    gd (R64 (x8 + x9)) <|
    b1 (if (x8 + x9) < 0 then
    (some true)
    else
    (some (decide ((l.length : Int) ≤ (x8 + x9))))) fun k10 =>
    if k10 = true then
    (oyezlaw01_HearProved_l9 metal2 n l n2 l3 rec4 fu9 at_10 turn10 way)
    else
    (b1 (oyezkit_Copy_int way) fun l7 =>
    ap l7 [x8 + x9] fun l8 =>
    b2 (hear_Takes n l n2 l8) fun n16 n17 =>
    if n17 ≠ 0 then
    (if n17 ≠ 8 then
    (some false)
    else
    (oyezlaw01_HearProved_l9 metal2 n l n2 l3 rec4 fu9 at_10 turn10 way))
    else
    (ap way [x8 + x9] fun way2 =>
    b1 (ix l3 (x8 + x9) fun x10 =>
    if n16 < x10 then
    (some true)
    else
    (some (decide (x10 = (-1))))) fun k11 =>
    if k11 = true then
    (some false)
    else
    (oyezlaw01_HearProved_l9 metal2 n l n2 l3 rec4 fu9 at_10 turn10 way2)))
def oyezlaw01_HearProved_j7 (metal2 : List Int) (n : Int) (l : List Int) (n2 : Int) (x : Int) (l3 : List Int) (q_at3 : Int) (q_turn3 : Int) (rec4 : Int → Int → Option Bool) : Option Bool :=
    b3 (oyezkit_Bell_Stroke metal2 q_at3 q_turn3 8) fun n14 at_9 turn9 =>
    gd (R64 0 ∧ R64 n14) <|
    oyezlaw01_HearProved_l9 metal2 n l n2 l3 rec4 (Int.toNat (n14 - 0)) at_9 turn9 [x]
def oyezlaw01_HearProved_l8 (metal2 : List Int) (n : Int) (l : List Int) (n2 : Int) (x : Int) (l3 : List Int) (q_at3 : Int) (q_turn3 : Int) (ok2 : Bool) (rec4 : Int → Int → Option Bool) : List Int → Int → Option Bool
  | [], _k7 =>
    oyezlaw01_HearProved_j7 metal2 n l n2 x l3 q_at3 q_turn3 rec4
  | x6 :: tl4, k7 =>
    b1 (if ok2 = true then
    (ix l3 k7 fun x7 =>
    if x7 ≠ (-1) then
    (some (decide (x7 < x6)))
    else
    (some false))
    else
    (some false)) fun k8 =>
    if k8 = true then
    (some false)
    else
    (oyezlaw01_HearProved_l8 metal2 n l n2 x l3 q_at3 q_turn3 ok2 rec4 tl4 (k7 + 1))
def oyezlaw01_HearProved_j3 : Option Bool :=
    b1 (oyezlaw01_awake) fun ok3 =>
    some ok3
def oyezlaw01_HearProved_l4 (metal2 : List Int) (n : Int) (l : List Int) (n2 : Int) (x : Int) (l3 : List Int) : Nat → Int → Int → Option Bool
  | 0, _q_at, _q_turn =>
    oyezlaw01_HearProved_j3
  | fu4 + 1, q_at, q_turn =>
    b1 (oyezkit_Copy_int l3) fun l5 =>
    b3 (b3 (oyezkit_Bell_Strike metal2 q_at q_turn 1 4) fun n10 at_6 turn6 =>
    gd (R64 0 ∧ R64 n10) <|
    oyezlaw01_HearProved_l6 metal2 (Int.toNat (n10 - 0)) at_6 turn6 l5) fun q_at3 q_turn3 table =>
    b2 (hear_Holds n l n2 x table) fun ok2 n13 =>
    if n13 ≠ 0 then
    (some false)
    else
    (oyezlaw01_HearProved_l8 metal2 n l n2 x l3 q_at3 q_turn3 ok2 (oyezlaw01_HearProved_l4 metal2 n l n2 x l3 fu4) table 0)
def oyezlaw01_HearProved_j1 (metal2 : List Int) (at_2 : Int) (turn2 : Int) (n : Int) (l : List Int) (n2 : Int) (x : Int) (l3 : List Int) : Option Bool :=
    gd (R64 0 ∧ R64 5) <|
    oyezlaw01_HearProved_l4 metal2 n l n2 x l3 (Int.toNat (5 - 0)) at_2 turn2
def oyezlaw01_HearProved_l2 (metal2 : List Int) (at_2 : Int) (turn2 : Int) (n : Int) (l : List Int) (n2 : Int) (x : Int) (l3 : List Int) : List Int → Int → Option Bool
  | [], _k2 =>
    oyezlaw01_HearProved_j1 metal2 at_2 turn2 n l n2 x l3
  | x2 :: tl2, k2 =>
    b2 (hear_Way n l n2 x k2) fun l4 n7 =>
    if n7 ≠ 0 then
    (b1 (if n7 ≠ 6 then
    (some true)
    else
    (some (decide (x2 ≠ (-1))))) fun k3 =>
    if k3 = true then
    (some false)
    else
    (oyezlaw01_HearProved_l2 metal2 at_2 turn2 n l n2 x l3 tl2 (k2 + 1)))
    else
    (b2 (hear_Takes n l n2 l4) fun n8 n9 =>
    b1 (if n9 ≠ 0 then
    (some true)
    else
    (if n8 ≠ x2 then
    (some true)
    else
    (if (l4.length : Int) = 0 then
    (some true)
    else
    (ix l4 0 fun x3 =>
    if x3 ≠ x then
    (some true)
    else
    (gd (R64 ((l4.length : Int) - 1)) <|
    ix l4 ((l4.length : Int) - 1) fun x4 =>
    some (decide (x4 ≠ k2))))))) fun k4 =>
    if k4 = true then
    (some false)
    else
    (oyezlaw01_HearProved_l2 metal2 at_2 turn2 n l n2 x l3 tl2 (k2 + 1)))
def oyezlaw01_HearProved (numbers : List Int) (tries : List Int) : Option Bool :=
    b3 (oyezkit_Hang numbers) fun metal at_ turn =>
    b3 (oyezkit_Hang tries) fun metal2 at_2 turn2 =>
    b4 (oyezlaw01_Made metal at_ turn 24) fun n l at_3 turn3 =>
    b4 (oyezlaw01_Aired metal at_3 turn3) fun n2 _n3 at_4 turn4 =>
    b1 (oyezlaw01_streets n l) fun l2 =>
    gd (R64 ((l2.length : Int) - 1)) <|
    b3 (oyezkit_Bell_Stroke metal at_4 turn4 ((l2.length : Int) - 1)) fun n4 _at_5 _turn5 =>
    ix l2 n4 fun x =>
    b2 (hear_Needs n l n2 x) fun l3 n5 =>
    b2 (hear_Holds n l n2 x l3) fun ok n6 =>
    b1 (if n5 ≠ 0 then
    (some true)
    else
    (if n6 ≠ 0 then
    (some true)
    else
    (if (!ok) = true then
    (some true)
    else
    (some (decide ((l3.length : Int) ≠ (l.length : Int))))))) fun k =>
    if k = true then
    (some false)
    else
    (oyezlaw01_HearProved_l2 metal2 at_2 turn2 n l n2 x l3 l3 0)

/- oyez/hear.Houses -/
def hear_Houses_l1 (plots : List Int) (voice : Int) : List Int → Int → (List Int) → Option (List Int)
  | [], _k, out2 =>
    some out2
  | x :: tl2, k, out2 =>
    b1 (ix plots k fun x2 =>
    if x2 = 1 then
    (b1 (hear_in x 0 voice) fun ok =>
    some ok)
    else
    (some false)) fun k2 =>
    if k2 = true then
    (ap out2 [k] fun out3 =>
    hear_Houses_l1 plots voice tl2 (k + 1) out3)
    else
    (hear_Houses_l1 plots voice tl2 (k + 1) out2)
def hear_Houses (wide : Int) (plots : List Int) (wind : Int) (voice : Int) (stand : Int) : Option ((List Int) × Int) :=
    b1 (hear_Check wide plots) fun n =>
    if n ≠ 0 then
    (some ([], n))
    else
    (b1 (hear_CheckAir wind voice) fun n2 =>
    if n2 ≠ 0 then
    (some ([], n2))
    else
    (b2 (hear_Needs wide plots wind stand) fun l n3 =>
    if n3 ≠ 0 then
    (some ([], n3))
    else
    (b1 (hear_Houses_l1 plots voice l 0 []) fun out =>
    some (out, 0))))

/- (oyez/hear.ears).list -/
def hear_ears_list_l1 (x : List Bool) : Nat → Int → (List Int) → Option (List Int)
  | 0, _k, out2 =>
    some out2
  | fu1 + 1, k, out2 =>
    ix x k fun x2 =>
    if x2 = true then
    (ap out2 [k] fun out3 =>
    hear_ears_list_l1 x fu1 (k + 1) out3)
    else
    (hear_ears_list_l1 x fu1 (k + 1) out2)
def hear_ears_list (x : List Bool) : Option (List Int) :=
    b1 (gd (R64 0 ∧ R64 30) <|
    hear_ears_list_l1 x (Int.toNat (30 - 0)) 0 []) fun out =>
    some out

/- oyez/hear.Stands -/
def hear_Stands (wide : Int) (plots : List Int) (wind : Int) (voice : Int) (house : Int) : Option ((List Int) × Int) :=
    b2 (hear_aired wide plots wind voice) fun l n =>
    if n ≠ 0 then
    (some ([], n))
    else
    (b1 (hear_Town_is wide plots house 1) fun n2 =>
    if n2 ≠ 0 then
    (some ([], n2))
    else
    (ix l house fun x =>
    b1 (hear_ears_list x) fun l2 =>
    some (l2, 0)))

/- oyez/hear.Deaf -/
def hear_Deaf_l1 (l : List (List Bool)) : List Int → Int → (List Int) → Option (List Int)
  | [], _k, out2 =>
    some out2
  | x :: tl2, k, out2 =>
    b1 (if x = 1 then
    (ix l k fun x2 =>
    some (decide (x2 = (List.replicate 30 false))))
    else
    (some false)) fun k2 =>
    if k2 = true then
    (ap out2 [k] fun out3 =>
    hear_Deaf_l1 l tl2 (k + 1) out3)
    else
    (hear_Deaf_l1 l tl2 (k + 1) out2)
def hear_Deaf (wide : Int) (plots : List Int) (wind : Int) (voice : Int) : Option ((List Int) × Int) :=
    b2 (hear_aired wide plots wind voice) fun l n =>
    if n ≠ 0 then
    (some ([], n))
    else
    (b1 (hear_Deaf_l1 l plots 0 []) fun out =>
    some (out, 0))

/- oyez/oyezref01.Hears -/
def oyezref01_Hears (wide : Int) (plots : List Int) (wind : Int) (voice : Int) (stand : Int) (house : Int) : Option Bool :=
    b2 (oyezref01_Need wide plots wind stand house) fun n n2 =>
    if n2 = 0 then
    (some (decide (n ≤ voice)))
    else
    (some false)

/- slices.Equal[[]oyez/hear.Dir,oyez/hear.Dir] -/
def slices_Equal_hear_Dir_hear_Dir_j1 : Option Bool :=
    some true
def slices_Equal_hear_Dir_hear_Dir_l2 (s2 : List Int) : List Int → Int → Option Bool
  | [], _k =>
    slices_Equal_hear_Dir_hear_Dir_j1
  | x :: tl2, k =>
    ix s2 k fun x2 =>
    if x ≠ x2 then
    (some false)
    else
    (slices_Equal_hear_Dir_hear_Dir_l2 s2 tl2 (k + 1))
def slices_Equal_hear_Dir_hear_Dir (s1 : List Int) (s2 : List Int) : Option Bool :=
    if (s1.length : Int) ≠ (s2.length : Int) then
    (some false)
    else
    (slices_Equal_hear_Dir_hear_Dir_l2 s2 s1 0)

/- oyez/oyezkit.Like[oyez/hear.Dir] -/
def oyezkit_Like_Dir (a : List Int) (b : List Int) : Option Bool :=
    b1 (slices_Equal_hear_Dir_hear_Dir a b) fun ok =>
    some ok

/- oyez/oyezlaw01.HearHouses -/
def oyezlaw01_HearHouses_l2 (stand : Int) (house : Int) (k : Int) (none_4 : List Int) : List Int → (List Int) → (List Int) → Option ((List Int) × (List Int) × (List Int))
  | [], by_4, of_4 =>
    some (by_4, of_4, none_4)
  | x3 :: tl4, by_4, of_4 =>
    b1 (if x3 = stand then
    (ap by_4 [k] fun by_6 =>
    some by_6)
    else
    (some by_4)) fun by_5 =>
    if k = house then
    (ap of_4 [x3] fun of_5 =>
    oyezlaw01_HearHouses_l2 stand house k none_4 tl4 by_5 of_5)
    else
    (oyezlaw01_HearHouses_l2 stand house k none_4 tl4 by_5 of_4)
def oyezlaw01_HearHouses_l1 (stand : Int) (house : Int) (l2 : List Int) (n5 : Int) (n6 : Int) : List (List Int) → Int → (List Int) → (List Int) → (List Int) → Option ((List Int) × (List Int) × (List Int) × (List Int) × Int × Int)
  | [], _k, by_2, of_2, none_2 =>
    some (l2, by_2, of_2, none_2, n5, n6)
  | x :: tl2, k, by_2, of_2, none_2 =>
    b3 (ix l2 k fun x2 =>
    if x2 ≠ 1 then
    (some (by_2, of_2, none_2))
    else
    (b1 (if (x.length : Int) = 0 then
    (ap none_2 [k] fun none_5 =>
    some none_5)
    else
    (some none_2)) fun none_4 =>
    oyezlaw01_HearHouses_l2 stand house k none_4 x by_2 of_2)) fun by_3 of_3 none_3 =>
    oyezlaw01_HearHouses_l1 stand house l2 n5 n6 tl2 (k + 1) by_3 of_3 none_3
def oyezlaw01_HearHouses_l3 (voice : Int) (stand : Int) (house : Int) (n2 : Int) (x_plots : List Int) (w3 : Int) : Nat → Int → (List Int) → Option (List Int)
  | 0, _k4, winds2 =>
    some winds2
  | fu3 + 1, k4, winds2 =>
    b1 (if w3 = 0 then
    (b1 (oyezref01_Hears n2 x_plots k4 voice stand house) fun ok6 =>
    some ok6)
    else
    (some false)) fun k5 =>
    if k5 = true then
    (ap winds2 [k4] fun winds3 =>
    oyezlaw01_HearHouses_l3 voice stand house n2 x_plots w3 fu3 (k4 + 1) winds3)
    else
    (oyezlaw01_HearHouses_l3 voice stand house n2 x_plots w3 fu3 (k4 + 1) winds2)
def oyezlaw01_HearHouses (wide : Int) (plots : List Int) (wind : Int) (voice : Int) (stand : Int) (house : Int) : Option Bool :=
    b1 (oyezlaw01_great wide plots) fun ok =>
    if ok = true then
    (b1 (oyezlaw01_awake) fun ok2 =>
    some ok2)
    else
    (b2 (oyezlaw01_Own wide plots) fun n l =>
    b2 (oyezlaw01_theirs wide plots) fun n2 l2 =>
    b1 (oyezref01_Check n2 l2) fun n3 =>
    b1 (if n3 = 0 then
    (b1 (oyezref01_CheckAir wind voice) fun n4 =>
    some n4)
    else
    (some n3)) fun w =>
    b6 (if w = 0 then
    (b1 (oyezref01_Is n2 l2 stand 0) fun n5 =>
    b1 (oyezref01_Is n2 l2 house 1) fun n6 =>
    b1 (oyezref01_Ears n2 l2 wind voice) fun l3 =>
    oyezlaw01_HearHouses_l1 stand house l2 n5 n6 l3 0 [] [] [])
    else
    (some (l2, [], [], [], w, w))) fun x_plots by_ of_ none_ u v =>
    b1 (if u ≠ 0 then
    (some [])
    else
    (some by_)) fun by_7 =>
    b1 (if v ≠ 0 then
    (some [])
    else
    (some of_)) fun of_6 =>
    b2 (hear_Houses n l wind voice stand) fun l4 n7 =>
    b2 (hear_Stands n l wind voice house) fun l5 n8 =>
    b2 (hear_Deaf n l wind voice) fun l6 n9 =>
    b1 (if n7 ≠ u then
    (some true)
    else
    (if n8 ≠ v then
    (some true)
    else
    (if n9 ≠ w then
    (some true)
    else
    (b1 (oyezkit_Like_int l4 by_7) fun ok3 =>
    if (!ok3) = true then
    (some true)
    else
    (b1 (oyezkit_Like_int l5 of_6) fun ok4 =>
    if (!ok4) = true then
    (some true)
    else
    (b1 (oyezkit_Like_int l6 none_) fun ok5 =>
    some (!ok5))))))) fun k3 =>
    if k3 = true then
    (some false)
    else
    (b1 (b1 (oyezref01_Check n2 x_plots) fun n10 =>
    if n10 = 0 then
    (b1 (oyezref01_CheckAir 0 voice) fun n11 =>
    some n11)
    else
    (some n10)) fun w2 =>
    b1 (if w2 = 0 then
    (b1 (oyezref01_Is n2 x_plots stand 0) fun n12 =>
    if n12 = 0 then
    (b1 (oyezref01_Is n2 x_plots house 1) fun n13 =>
    some n13)
    else
    (some n12))
    else
    (some w2)) fun w3 =>
    b1 (gd (R64 0 ∧ R64 5) <|
    oyezlaw01_HearHouses_l3 voice stand house n2 x_plots w3 (Int.toNat (5 - 0)) 0 []) fun winds =>
    b2 (hear_Winds n l voice stand house) fun l7 n14 =>
    if n14 = w3 then
    (b1 (oyezkit_Like_Dir l7 winds) fun ok7 =>
    if ok7 = true then
    (b1 (oyezlaw01_same n l wide plots) fun ok8 =>
    if ok8 = true then
    (b1 (oyezlaw01_awake) fun ok9 =>
    some ok9)
    else
    (some false))
    else
    (some false))
    else
    (some false)))

/- oyez/oyezlaw01.houses -/
def oyezlaw01_houses_l1 : List Int → Int → (List Int) → Option (List Int)
  | [], _k, out2 =>
    some out2
  | x :: tl2, k, out2 =>
    if x = 1 then
    (ap out2 [k] fun out3 =>
    oyezlaw01_houses_l1 tl2 (k + 1) out3)
    else
    (oyezlaw01_houses_l1 tl2 (k + 1) out2)
def oyezlaw01_houses (_wide : Int) (plots : List Int) : Option (List Int) :=
    b1 (oyezlaw01_houses_l1 plots 0 []) fun out =>
    some out

/- cmp.isNaN[int] -/
def cmp_isNaN_int (x : Int) : Option Bool :=
    some (decide (x ≠ x))

/- cmp.Less[int] -/
def cmp_Less_int (x : Int) (y : Int) : Option Bool :=
    b1 (cmp_isNaN_int x) fun ok =>
    if ok = true then
    (b1 (cmp_isNaN_int y) fun ok2 =>
    if (!ok2) = true then
    (some true)
    else
    (some (decide (x < y))))
    else
    (some (decide (x < y)))

/- slices.insertionSortOrdered[int] -/
def slices_insertionSortOrdered_int_l2 (a : Int) : Nat → (List Int) → Int → Option (List Int)
  | 0, _, _ => none
  | fu2 + 1, data3, j =>
    b1 (if a < j then
    (ix data3 j fun x =>
    gd (R64 (j - 1)) <|
    ix data3 (j - 1) fun x2 =>
    b1 (cmp_Less_int x x2) fun ok =>
    some ok)
    else
    (some false)) fun k =>
    if k = true then
    (gd (R64 (j - 1)) <|
    gd (R64 (j - 1)) <|
    ix data3 (j - 1) fun x3 =>
    ix data3 j fun x4 =>
    bv (data3.set (j : Int).toNat x3) fun l =>
    ix l (j - 1) fun _x5 =>
    bv (l.set (j - 1 : Int).toNat x4) fun l2 =>
    gd (R64 (j - 1)) <|
    slices_insertionSortOrdered_int_l2 a fu2 l2 (j - 1))
    else
    (some data3)
def slices_insertionSortOrdered_int_l1 (a : Int) : Nat → Int → (List Int) → Option (List Int)
  | 0, _i, data =>
    some data
  | fu1 + 1, i, data =>
    b1 (slices_insertionSortOrdered_int_l2 a FU data i) fun data2 =>
    slices_insertionSortOrdered_int_l1 a fu1 (i + 1) data2
def slices_insertionSortOrdered_int (s_ : List Int) (a : Int) (b : Int) : Option (List Int) :=
    gd (R64 (a + 1)) <|
    gd (R64 (a + 1) ∧ R64 b) <|
    slices_insertionSortOrdered_int_l1 a (Int.toNat (b - (a + 1))) (a + 1) s_

/- slices.order2Ordered[int] -/
def slices_order2Ordered_int (data : List Int) (a : Int) (b : Int) (swaps : Int) : Option (Int × Int × Int) :=
    ix data b fun x =>
    ix data a fun x2 =>
    b1 (cmp_Less_int x x2) fun ok =>
    if ok = true then
    (gd (R64 (swaps + 1)) <|
    some (b, a, swaps + 1))
    else
    (some (a, b, swaps))

/- slices.medianOrdered[int] -/
def slices_medianOrdered_int (data : List Int) (a : Int) (b : Int) (c : Int) (swaps : Int) : Option (Int × Int) :=
    b3 (slices_order2Ordered_int data a b swaps) fun n n2 swaps2 =>
    b3 (slices_order2Ordered_int data n2 c swaps2) fun n3 _n4 swaps3 =>
    b3 (slices_order2Ordered_int data n n3 swaps3) fun _n5 n6 swaps4 =>
    some (n6, swaps4)

/- slices.medianAdjacentOrdered[int] -/
def slices_medianAdjacentOrdered_int (data : List Int) (a : Int) (swaps : Int) : Option (Int × Int) :=
    gd (R64 (a - 1)) <|
    gd (R64 (a + 1)) <|
    b2 (slices_medianOrdered_int data (a - 1) a (a + 1) swaps) fun n swaps2 =>
    some (n, swaps2)

/- slices.choosePivotOrdered[int] -/
def slices_choosePivotOrdered_int (data : List Int) (a : Int) (b : Int) : Option (Int × Int) :=
    gd (R64 (b - a)) <|
    gd ((4 : Int) ≠ 0 ∧ R64 (Int.tdiv (b - a) 4)) <|
    gd (R64 ((Int.tdiv (b - a) 4) * 1)) <|
    gd (R64 (a + ((Int.tdiv (b - a) 4) * 1))) <|
    bv (a + ((Int.tdiv (b - a) 4) * 1)) fun i =>
    gd ((4 : Int) ≠ 0 ∧ R64 (Int.tdiv (b - a) 4)) <|
    gd (R64 ((Int.tdiv (b - a) 4) * 2)) <|
    gd (R64 (a + ((Int.tdiv (b - a) 4) * 2))) <|
    bv (a + ((Int.tdiv (b - a) 4) * 2)) fun j =>
    gd ((4 : Int) ≠ 0 ∧ R64 (Int.tdiv (b - a) 4)) <|
    gd (R64 ((Int.tdiv (b - a) 4) * 3)) <|
    gd (R64 (a + ((Int.tdiv (b - a) 4) * 3))) <|
    bv (a + ((Int.tdiv (b - a) 4) * 3)) fun k =>
    b2 (if 8 ≤ (b - a) then
    (b4 (if 50 ≤ (b - a) then
    (b2 (slices_medianAdjacentOrdered_int data i 0) fun n swaps3 =>
    b2 (slices_medianAdjacentOrdered_int data j swaps3) fun n2 swaps4 =>
    b2 (slices_medianAdjacentOrdered_int data k swaps4) fun n3 swaps5 =>
    some (swaps5, n, n2, n3))
    else
    (some (0, i, j, k))) fun swaps2 i2 j3 k2 =>
    b2 (slices_medianOrdered_int data i2 j3 k2 swaps2) fun n4 swaps6 =>
    some (swaps6, n4))
    else
    (some (0, j))) fun swaps j2 =>
    if swaps = 0 then
    (some (j2, 1))
    else
    (if swaps = 12 then
    (some (j2, 2))
    else
    (some (j2, 0)))

/- slices.pdqsortOrdered[int] -/
def slices_pdqsortOrdered_intB_l1 (s_ : List Int) (a : Int) (b : Int) : Nat → Option (List Int)
  | 0 => none
  | _fu1 + 1 =>
    gd (R64 (b - a)) <|
    gd ((b - a) ≤ 12) <|
    b1 (slices_insertionSortOrdered_int s_ a b) fun s_2 =>
    some s_2
def slices_pdqsortOrdered_intB (_rec_ : (List Int) → Int → Int → Int → Option ((List Int))) (s_ : List Int) (a : Int) (b : Int) (_limit : Int) : Option (List Int) :=
    slices_pdqsortOrdered_intB_l1 s_ a b FU
def slices_pdqsortOrdered_int : Nat → (List Int) → Int → Int → Int → Option (List Int)
  | 0, _, _, _, _ => none
  | fu + 1, s_, a, b, limit =>
    slices_pdqsortOrdered_intB (slices_pdqsortOrdered_int fu) s_ a b limit

/- slices.Values[[]int,int]$1 -/
def slices_Values_int_int_1_l1 : List Int → Option (List Int)
  | [] =>
    some []
  | x :: tl2 =>
    yl x <|
    slices_Values_int_int_1_l1 tl2
def slices_Values_int_int_1 (s_ : List Int) : Option (List Int) :=
    slices_Values_int_int_1_l1 s_

/- slices.Values[[]int,int] -/
def slices_Values_int_int (s_ : List Int) : Option (List Int) :=
    b1 (slices_Values_int_int_1 s_) fun l =>
    some l

/- slices.Clone[[]int,int] -/
def slices_Clone_int_int (s_ : List Int) : Option (List Int) :=
    nilIf (s_ = []) (some []) (ap ([] : List Int) s_ fun l =>
    some l)

/- slices.IndexFunc[[]int,int] -/
def slices_IndexFunc_int_int_j1 : Option Int :=
    some (-1)
def slices_IndexFunc_int_int_l2 (f : Int → Option Bool) : List Int → Int → Option Int
  | [], _k =>
    slices_IndexFunc_int_int_j1
  | x :: tl2, k =>
    b1 (f x) fun ok =>
    if ok = true then
    (some k)
    else
    (slices_IndexFunc_int_int_l2 f tl2 (k + 1))
def slices_IndexFunc_int_int (s_ : List Int) (f : Int → Option Bool) : Option Int :=
    slices_IndexFunc_int_int_l2 f s_ 0

/- slices.ContainsFunc[[]int,int] -/
def slices_ContainsFunc_int_int (s_ : List Int) (f : Int → Option Bool) : Option Bool :=
    b1 (slices_IndexFunc_int_int s_ f) fun n =>
    some (decide (0 ≤ n))

/- oyez/hear.every[int]$1 -/
def hear_every_int_1 (x : Int) (so : Int → Option Bool) : Option Bool :=
    b1 (so x) fun ok =>
    some (!ok)

/- oyez/hear.every[int] -/
def hear_every_int (l : List Int) (so : Int → Option Bool) : Option Bool :=
    b1 (slices_ContainsFunc_int_int l (fun x : Int => hear_every_int_1 x so)) fun ok =>
    some (!ok)

/- (oyez/hear.ears).common -/
def hear_ears_common_j1 : Option Bool :=
    some false
def hear_ears_common_l2 (x : List Bool) (y : List Bool) : Nat → Int → Option Bool
  | 0, _k =>
    hear_ears_common_j1
  | fu2 + 1, k =>
    b1 (ix x k fun x2 =>
    if x2 = true then
    (ix y k fun x3 =>
    some x3)
    else
    (some false)) fun k2 =>
    if k2 = true then
    (some true)
    else
    (hear_ears_common_l2 x y fu2 (k + 1))
def hear_ears_common (x : List Bool) (y : List Bool) : Option Bool :=
    gd (R64 0 ∧ R64 30) <|
    hear_ears_common_l2 x y (Int.toNat (30 - 0)) 0

/- oyez/oyezlaw01.HearMirrored$1 -/
def oyezlaw01_HearMirrored_1 (p : Int) (x : Bool) (x2 : Int) (wide : Int) (_plots : List Int) : Option Int :=
    if x = true then
    (gd (R64 (x2 - 1)) <|
    gd ((wide : Int) ≠ 0 ∧ R64 (Int.tdiv p wide)) <|
    gd (R64 ((x2 - 1) - (Int.tdiv p wide))) <|
    gd (R64 (((x2 - 1) - (Int.tdiv p wide)) * wide)) <|
    gd (wide ≠ 0) <|
    gd (R64 ((((x2 - 1) - (Int.tdiv p wide)) * wide) + (Int.tmod p wide))) <|
    some ((((x2 - 1) - (Int.tdiv p wide)) * wide) + (Int.tmod p wide)))
    else
    (gd ((wide : Int) ≠ 0 ∧ R64 (Int.tdiv p wide)) <|
    gd (R64 ((Int.tdiv p wide) * wide)) <|
    gd (R64 (((Int.tdiv p wide) * wide) + wide)) <|
    gd (R64 ((((Int.tdiv p wide) * wide) + wide) - 1)) <|
    gd (wide ≠ 0) <|
    gd (R64 (((((Int.tdiv p wide) * wide) + wide) - 1) - (Int.tmod p wide))) <|
    some (((((Int.tdiv p wide) * wide) + wide) - 1) - (Int.tmod p wide)))

/- oyez/oyezlaw01.served -/
def oyezlaw01_served_j3 (rec2 : (List (Int × Bool)) → Option (Int × Bool)) (heard3 : List (Int × Bool)) : Option (Int × Bool) :=
    rec2 heard3
def oyezlaw01_served_l4 (rec2 : (List (Int × Bool)) → Option (Int × Bool)) : List Int → (List (Int × Bool)) → Option (Int × Bool)
  | [], heard4 =>
    oyezlaw01_served_j3 rec2 heard4
  | x2 :: tl4, heard4 =>
    bv (mput heard4 x2 true) fun heard5 =>
    oyezlaw01_served_l4 rec2 tl4 heard5
def oyezlaw01_served_l5 (heard : List (Int × Bool)) : List Int → Int → Option Int
  | [], n3 =>
    some n3
  | x3 :: tl6, n3 =>
    if ((mget heard x3).getD false) = true then
    (gd (R64 (n3 + 1)) <|
    oyezlaw01_served_l5 heard tl6 (n3 + 1))
    else
    (oyezlaw01_served_l5 heard tl6 n3)
def oyezlaw01_served_j1 (houses : List Int) (heard : List (Int × Bool)) : Option (Int × Bool) :=
    b1 (oyezlaw01_served_l5 heard houses 0) fun n2 =>
    some (n2, true)
def oyezlaw01_served_l2 (wide : Int) (plots : List Int) (wind : Int) (voice : Int) (houses : List Int) : List Int → (List (Int × Bool)) → Option (Int × Bool)
  | [], heard2 =>
    oyezlaw01_served_j1 houses heard2
  | x :: tl2, heard2 =>
    b2 (hear_Houses wide plots wind voice x) fun l n =>
    if n ≠ 0 then
    (some (0, false))
    else
    (oyezlaw01_served_l4 (oyezlaw01_served_l2 wide plots wind voice houses tl2) l heard2)
def oyezlaw01_served (wide : Int) (plots : List Int) (wind : Int) (voice : Int) (houses : List Int) (stands : List Int) : Option (Int × Bool) :=
    oyezlaw01_served_l2 wide plots wind voice houses stands []

/- slices.IsSorted[[]int,int] -/
def slices_IsSorted_int_int_j1 : Option Bool :=
    some true
def slices_IsSorted_int_int_l2 (x : List Int) : Nat → Int → Option Bool
  | 0, _ => none
  | fu2 + 1, i =>
    if 0 < i then
    (ix x i fun x2 =>
    gd (R64 (i - 1)) <|
    ix x (i - 1) fun x3 =>
    b1 (cmp_Less_int x2 x3) fun ok =>
    if ok = true then
    (some false)
    else
    (gd (R64 (i - 1)) <|
    slices_IsSorted_int_int_l2 x fu2 (i - 1)))
    else
    slices_IsSorted_int_int_j1
def slices_IsSorted_int_int (x : List Int) : Option Bool :=
    gd (R64 ((x.length : Int) - 1)) <|
    slices_IsSorted_int_int_l2 x FU ((x.length : Int) - 1)

/- (*oyez/oyezkit.Bell).Rung -/
def oyezkit_Bell_Rung_l1 (metal : List Int) : Nat → Int → Int → Int → (List Int) → Option ((List Int) × Int × Int)
  | 0, _k, b_at2, b_turn2, out2 =>
    some (out2, b_at2, b_turn2)
  | fu1 + 1, k, b_at2, b_turn2, out2 =>
    b3 (oyezkit_Bell_Stroke metal b_at2 b_turn2 k) fun n2 at_2 turn2 =>
    ap out2 [k] fun out3 =>
    ix out3 k fun x =>
    ix out3 n2 fun x2 =>
    bv (out3.set (n2 : Int).toNat x) fun l =>
    ix l k fun _x3 =>
    bv (l.set (k : Int).toNat x2) fun l2 =>
    oyezkit_Bell_Rung_l1 metal fu1 (k + 1) at_2 turn2 l2
def oyezkit_Bell_Rung (metal : List Int) (at_ : Int) (turn : Int) (n : Int) : Option ((List Int) × Int × Int) :=
    b3 (gd (R64 0 ∧ R64 (if n > 0 then n else 0)) <|
    oyezkit_Bell_Rung_l1 metal (Int.toNat ((if n > 0 then n else 0) - 0)) 0 at_ turn []) fun out b_at b_turn =>
    some (out, b_at, b_turn)

/- cmp.Compare[int] -/
def cmp_Compare_int (x : Int) (y : Int) : Option Int :=
    b1 (cmp_isNaN_int x) fun ok =>
    b1 (cmp_isNaN_int y) fun ok2 =>
    if ok = true then
    (if ok2 = true then
    (some 0)
    else
    (some (-1)))
    else
    (if ok2 = true then
    (some 1)
    else
    (if x < y then
    (some (-1))
    else
    (if y < x then
    (some 1)
    else
    (some 0))))

/- slices.Compare[[]int,int] -/
def slices_Compare_int_int_j1 (s1 : List Int) (s2 : List Int) : Option Int :=
    if (s1.length : Int) < (s2.length : Int) then
    (some (-1))
    else
    (some 0)
def slices_Compare_int_int_l2 (s1 : List Int) (s2 : List Int) : List Int → Int → Option Int
  | [], _k =>
    slices_Compare_int_int_j1 s1 s2
  | x :: tl2, k =>
    if (s2.length : Int) ≤ k then
    (some 1)
    else
    (ix s2 k fun x2 =>
    b1 (cmp_Compare_int x x2) fun n =>
    if n ≠ 0 then
    (some n)
    else
    (slices_Compare_int_int_l2 s1 s2 tl2 (k + 1)))
def slices_Compare_int_int (s1 : List Int) (s2 : List Int) : Option Int :=
    slices_Compare_int_int_l2 s1 s2 s1 0

/- oyez/oyezlaw01.HearLouder$1 -/
def oyezlaw01_HearLouder_1 (h : Int) (y : List Int) : Option Bool :=
    b1 (slices_Contains_int_int y h) fun ok =>
    some (!ok)

/- slices.Compact[[]int,int] -/
def slices_Compact_int_int_l4 (k : Int) : Nat → (List Int) → Int → Int → Option ((List Int) × Int)
  | 0, _, _, _ => none
  | fu4 + 1, s_3, k3, k2_2 =>
    if k2_2 < ((s_3.length - Int.toNat k : Nat) : Int) then
    (ix (s_3.drop (Int.toNat k)) k2_2 fun x3 =>
    gd (R64 (k2_2 - 1)) <|
    ix (s_3.drop (Int.toNat k)) (k2_2 - 1) fun x4 =>
    if x3 ≠ x4 then
    (ix s_3 k3 fun _x5 =>
    bv (s_3.set (k3 : Int).toNat x3) fun s_4 =>
    gd (R64 (k3 + 1)) <|
    gd (R64 (k2_2 + 1)) <|
    slices_Compact_int_int_l4 k fu4 s_4 (k3 + 1) (k2_2 + 1))
    else
    (gd (R64 (k2_2 + 1)) <|
    slices_Compact_int_int_l4 k fu4 s_3 k3 (k2_2 + 1)))
    else
    (some (s_3, k3))
def slices_Compact_int_int_j3 (k : Int) (rec2 : Int → Option (List Int)) : Option (List Int) :=
    rec2 (k + 1)
def slices_Compact_int_int_j1 (s_ : List Int) : Option (List Int) :=
    some s_
def slices_Compact_int_int_l2 (s_ : List Int) : Nat → Int → Option (List Int)
  | 0, _k =>
    slices_Compact_int_int_j1 s_
  | fu2 + 1, k =>
    ix s_ k fun x =>
    gd (R64 (k - 1)) <|
    ix s_ (k - 1) fun x2 =>
    if x = x2 then
    (gd (0 ≤ k ∧ k ≤ (s_.length : Int)) <|
    b2 (slices_Compact_int_int_l4 k FU s_ k 1) fun s_2 k2 =>
    gd (0 ≤ k2 ∧ k2 ≤ (s_2.length : Int)) <|
    bv (s_2.take (Int.toNat k2) ++ List.replicate (s_2.length - Int.toNat k2) 0 : List Int) fun s_5 =>
    gd ((0 ≤ (0 : Int) ∧ (0 : Int) ≤ k2) ∧ k2 ≤ s_5.length) <|
    bv (sl s_5 0 k2) fun s_6 =>
    some s_6)
    else
    slices_Compact_int_int_j3 k (slices_Compact_int_int_l2 s_ fu2)
def slices_Compact_int_int (s_ : List Int) : Option (List Int) :=
    if (s_.length : Int) < 2 then
    (some s_)
    else
    (gd (R64 1 ∧ R64 (s_.length : Int)) <|
    slices_Compact_int_int_l2 s_ (Int.toNat ((s_.length : Int) - 1)) 1)

/- slices.DeleteFunc[[]int,int] -/
def slices_DeleteFunc_int_int_l1 (del : Int → Option Bool) : Nat → (List Int) → Int → Int → Option ((List Int) × Int)
  | 0, _, _, _ => none
  | fu1 + 1, s_3, i2, j =>
    if j < (s_3.length : Int) then
    (ix s_3 j fun x =>
    b1 (del x) fun ok =>
    if (!ok) = true then
    (ix s_3 i2 fun _x2 =>
    bv (s_3.set (i2 : Int).toNat x) fun s_4 =>
    gd (R64 (i2 + 1)) <|
    gd (R64 (j + 1)) <|
    slices_DeleteFunc_int_int_l1 del fu1 s_4 (i2 + 1) (j + 1))
    else
    (gd (R64 (j + 1)) <|
    slices_DeleteFunc_int_int_l1 del fu1 s_3 i2 (j + 1)))
    else
    (some (s_3, i2))
def slices_DeleteFunc_int_int (s_ : List Int) (del : Int → Option Bool) : Option (List Int) :=
    b1 (slices_IndexFunc_int_int s_ del) fun n =>
    if n = (-1) then
    (some s_)
    else
    (b2 (gd (R64 (n + 1)) <|
    slices_DeleteFunc_int_int_l1 del FU s_ n (n + 1)) fun s_2 i =>
    gd (0 ≤ i ∧ i ≤ (s_2.length : Int)) <|
    bv (s_2.take (Int.toNat i) ++ List.replicate (s_2.length - Int.toNat i) 0 : List Int) fun s_5 =>
    gd ((0 ≤ (0 : Int) ∧ (0 : Int) ≤ i) ∧ i ≤ s_5.length) <|
    bv (sl s_5 0 i) fun s_6 =>
    some s_6)

/- oyez/oyezlaw01.HearMore$1 -/
def oyezlaw01_HearMore_1 (h : Int) (deaf : List Int) : Option Bool :=
    b1 (slices_Contains_int_int deaf h) fun ok =>
    some ok

end Go.Proofs.Ytdnmaodkdhdacaa
