/- Plain functions that mirror the code, printed by a program of mine. -/
import Derived.Test.YtejkgppikpkkpaaGreatZFPl
namespace Go.Proofs.YtejkgppikpkkpaaGreat
open Go.PL
def strt_0 : List Int := [0, 1, 2, 2, 3, 3, 3, 3, 4, 4, 4, 4, 4, 4, 4, 4, 5, 5, 5, 5, 5, 5, 5, 5, 5, 5, 5, 5, 5, 5, 5, 5, 6, 6, 6, 6, 6, 6, 6, 6, 6, 6, 6, 6, 6, 6, 6, 6, 6, 6, 6, 6, 6, 6, 6, 6, 6, 6, 6, 6, 6, 6, 6, 6, 7, 7, 7, 7, 7, 7, 7, 7, 7, 7, 7, 7, 7, 7, 7, 7, 7, 7, 7, 7, 7, 7, 7, 7, 7, 7, 7, 7, 7, 7, 7, 7, 7, 7, 7, 7, 7, 7, 7, 7, 7, 7, 7, 7, 7, 7, 7, 7, 7, 7, 7, 7, 7, 7, 7, 7, 7, 7, 7, 7, 7, 7, 7, 7, 8, 8, 8, 8, 8, 8, 8, 8, 8, 8, 8, 8, 8, 8, 8, 8, 8, 8, 8, 8, 8, 8, 8, 8, 8, 8, 8, 8, 8, 8, 8, 8, 8, 8, 8, 8, 8, 8, 8, 8, 8, 8, 8, 8, 8, 8, 8, 8, 8, 8, 8, 8, 8, 8, 8, 8, 8, 8, 8, 8, 8, 8, 8, 8, 8, 8, 8, 8, 8, 8, 8, 8, 8, 8, 8, 8, 8, 8, 8, 8, 8, 8, 8, 8, 8, 8, 8, 8, 8, 8, 8, 8, 8, 8, 8, 8, 8, 8, 8, 8, 8, 8, 8, 8, 8, 8, 8, 8, 8, 8, 8, 8, 8, 8, 8, 8, 8, 8, 8, 8, 8, 8, 8, 8, 8, 8, 8, 8]
def oyezlaw01_great (_wide : Int) (plots : List Int) : Option Bool :=
    some (decide (40 < (plots.length : Int)))
def oyezlaw01_many_l1 : List Int → Int → Option Int
  | [], n2 =>
    some n2
  | x :: tl2, n2 =>
    if x = 0 then
    (gd (R64 (n2 + 1)) <|
    oyezlaw01_many_l1 tl2 (n2 + 1))
    else
    (oyezlaw01_many_l1 tl2 n2)
def oyezlaw01_many (wide : Int) (plots : List Int) (most : Int) : Option Bool :=
    b1 (oyezlaw01_many_l1 plots 0) fun n =>
    b1 (oyezlaw01_great wide plots) fun ok =>
    if ok = true then
    (some true)
    else
    (if most < n then
    (some (decide ((plots.length : Int) ≤ 30)))
    else
    (some false))
def hear_in (n : Int) (lo : Int) (hi : Int) : Option Bool :=
    if lo ≤ n then
    (some (decide (n ≤ hi)))
    else
    (some false)
def slices_IndexFunc_hear_Plot_hear_Plot_j1 : Option Int :=
    some (-1)
def slices_IndexFunc_hear_Plot_hear_Plot_l2 (f : Int → Option Bool) : List Int → Int → Option Int
  | [], _k =>
    slices_IndexFunc_hear_Plot_hear_Plot_j1
  | x :: tl2, k =>
    b1 (f x) fun ok =>
    if ok = true then
    (some k)
    else
    (slices_IndexFunc_hear_Plot_hear_Plot_l2 f tl2 (k + 1))
def slices_IndexFunc_hear_Plot_hear_Plot (s_ : List Int) (f : Int → Option Bool) : Option Int :=
    slices_IndexFunc_hear_Plot_hear_Plot_l2 f s_ 0
def slices_ContainsFunc_hear_Plot_hear_Plot (s_ : List Int) (f : Int → Option Bool) : Option Bool :=
    b1 (slices_IndexFunc_hear_Plot_hear_Plot s_ f) fun n =>
    some (decide (0 ≤ n))
def hear_every_Plot_1 (x : Int) (so : Int → Option Bool) : Option Bool :=
    b1 (so x) fun ok =>
    some (!ok)
def hear_every_Plot (l : List Int) (so : Int → Option Bool) : Option Bool :=
    b1 (slices_ContainsFunc_hear_Plot_hear_Plot l (fun xx_ : Int => hear_every_Plot_1 xx_ so)) fun ok =>
    some (!ok)
def hear_Check_1 (p : Int) : Option Bool :=
    b1 (hear_in p 0 2) fun ok =>
    some ok
def hear_Town_houses_l1 : List Int → Int → Option Int
  | [], n2 =>
    some n2
  | x :: tl2, n2 =>
    if x = 1 then
    (gd (R64 (n2 + 1)) <|
    hear_Town_houses_l1 tl2 (n2 + 1))
    else
    (hear_Town_houses_l1 tl2 n2)
def hear_Town_houses (_wide : Int) (plots : List Int) : Option Int :=
    b1 (hear_Town_houses_l1 plots 0) fun n =>
    some n
def hear_Check (wide : Int) (plots : List Int) : Option Int :=
    b1 (b1 (hear_in wide 1 6) fun ok =>
    if (!ok) = true then
    (some true)
    else
    (b1 (hear_in (plots.length : Int) 1 30) fun ok2 =>
    if (!ok2) = true then
    (some true)
    else
    (gd (wide ≠ 0) <|
    some (decide ((Int.tmod (plots.length : Int) wide) ≠ 0))))) fun k =>
    if k = true then
    (some 2)
    else
    (b1 (hear_every_Plot plots (fun xx_ : Int => hear_Check_1 xx_)) fun ok3 =>
    if (!ok3) = true then
    (some 3)
    else
    (b1 (hear_Town_houses wide plots) fun n =>
    if 10 < n then
    (some 2)
    else
    (some 0)))
def hear_Dir_there (w : Int) : Option Bool :=
    b1 (hear_in w 0 4) fun ok =>
    some ok
def hear_steps : Option (List (Int × (Int × Int))) :=
    bv (mput [] 1 (-1, 0)) fun met =>
    bv (mput met 2 (0, 1)) fun met2 =>
    bv (mput met2 3 (1, 0)) fun met3 =>
    bv (mput met3 4 (0, -1)) fun met4 =>
    some met4
def hear_opened (wide : Int) (plots : List Int) (wind : Int) : Option ((Option (Int × (List Int) × Int × Int × Bool)) × Int) :=
    b1 (hear_Check wide plots) fun n =>
    if n ≠ 0 then
    (some (none, n))
    else
    (b1 (hear_Dir_there wind) fun ok =>
    if (!ok) = true then
    (some (none, 3))
    else
    (b1 (hear_steps) fun m =>
    some (some (wide, plots, ((mget m wind).getD (0, 0)).1, ((mget m wind).getD (0, 0)).2, (mget m wind).isSome), 0)))
def hear_CheckAir (wind : Int) (voice : Int) : Option Int :=
    b1 (b1 (hear_Dir_there wind) fun ok =>
    if (!ok) = true then
    (some true)
    else
    (b1 (hear_in voice 1 40) fun ok2 =>
    some (!ok2))) fun k =>
    if k = true then
    (some 3)
    else
    (some 0)
def hear_Town_wall (_wide : Int) (plots : List Int) (p : Int) : Option Bool :=
    ix plots p fun x =>
    some (decide (x = 2))
def hear_Town_plot (_wide : Int) (plots : List Int) (p : Int) : Option Bool :=
    gd (R64 ((plots.length : Int) - 1)) <|
    b1 (hear_in p 0 ((plots.length : Int) - 1)) fun ok =>
    some ok
def hear_step_back (down : Int) (right_ : Int) : Option (Int × Int) :=
    gd (R64 (-down)) <|
    gd (R64 (-right_)) <|
    some (-down, -right_)
def hear_desk_needs (_wide : Int) (plots : List Int) (down : Int) (right_ : Int) (blows : Bool) (down2 : Int) (right_2 : Int) (to : Int) : Option Int :=
    b1 (if (!blows) = true then
    (some 2)
    else
    (if down2 = down ∧ right_2 = right_ then
    (some 1)
    else
    (b2 (hear_step_back down right_) fun n2 n3 =>
    if down2 = n2 ∧ right_2 = n3 then
    (some 4)
    else
    (some 2)))) fun n =>
    ix plots to fun x =>
    if x = 1 then
    (gd (R64 (n + 1)) <|
    some (n + 1))
    else
    (some n)
def hear_desk_next_1_l1 (p : Int) (wide : Int) (plots : List Int) (down : Int) (right_ : Int) (blows : Bool) (closed : Int → Option Bool) : Nat → Int → Option (List (Int × Int))
  | 0, _k =>
    some []
  | fu1 + 1, k =>
    ix [(-1, 0), (0, -1), (0, 1), (1, 0)] k fun x =>
    gd (R64 (x.1 * wide)) <|
    gd (R64 (p + (x.1 * wide))) <|
    gd (R64 ((p + (x.1 * wide)) + x.2)) <|
    b1 (hear_Town_plot wide plots ((p + (x.1 * wide)) + x.2)) fun ok =>
    if (!ok) = true then
    (hear_desk_next_1_l1 p wide plots down right_ blows closed fu1 (k + 1))
    else
    (if x.1 = 0 then
    (gd ((wide : Int) ≠ 0 ∧ R64 (Int.tdiv ((p + (x.1 * wide)) + x.2) wide)) <|
    gd ((wide : Int) ≠ 0 ∧ R64 (Int.tdiv p wide)) <|
    if (Int.tdiv ((p + (x.1 * wide)) + x.2) wide) ≠ (Int.tdiv p wide) then
    (hear_desk_next_1_l1 p wide plots down right_ blows closed fu1 (k + 1))
    else
    (b1 (closed ((p + (x.1 * wide)) + x.2)) fun ok2 =>
    if ok2 = true then
    (hear_desk_next_1_l1 p wide plots down right_ blows closed fu1 (k + 1))
    else
    (b1 (hear_desk_needs wide plots down right_ blows x.1 x.2 ((p + (x.1 * wide)) + x.2)) fun n =>
    yl ((p + (x.1 * wide)) + x.2, n) <|
    hear_desk_next_1_l1 p wide plots down right_ blows closed fu1 (k + 1))))
    else
    (b1 (closed ((p + (x.1 * wide)) + x.2)) fun ok3 =>
    if ok3 = true then
    (hear_desk_next_1_l1 p wide plots down right_ blows closed fu1 (k + 1))
    else
    (b1 (hear_desk_needs wide plots down right_ blows x.1 x.2 ((p + (x.1 * wide)) + x.2)) fun n2 =>
    yl ((p + (x.1 * wide)) + x.2, n2) <|
    hear_desk_next_1_l1 p wide plots down right_ blows closed fu1 (k + 1))))
def hear_desk_next_1 (p : Int) (wide : Int) (plots : List Int) (down : Int) (right_ : Int) (blows : Bool) (closed : Int → Option Bool) : Option (List (Int × Int)) :=
    gd (R64 0 ∧ R64 4) <|
    hear_desk_next_1_l1 p wide plots down right_ blows closed (Int.toNat (4 - 0)) 0
def hear_desk_next (wide : Int) (plots : List Int) (down : Int) (right_ : Int) (blows : Bool) (p : Int) : Option (List (Int × Int)) :=
    b1 (hear_desk_next_1 p wide plots down right_ blows (fun xx_ : Int => hear_Town_wall wide plots xx_)) fun l =>
    some l
def hear_desk_from_l1 : Nat → Int → (List Int) → Option (List Int)
  | 0, _k, out2 =>
    some out2
  | fu1 + 1, k, out2 =>
    ix out2 k fun _x =>
    bv (out2.set (k : Int).toNat (-1)) fun out3 =>
    hear_desk_from_l1 fu1 (k + 1) out3
def hear_desk_from_l3 (x3 : Int) (rec2 : (List Int) → (List Int) → Option (List Int)) : List (Int × Int) → (List Int) → (List Int) → Option (List Int)
  | [], out7, line3 =>
    rec2 out7 line3
  | x4 :: tl2, out7, line3 =>
    b1 (ix out7 x4.1 fun x5 =>
    if x5 = (-1) then
    (some true)
    else
    (ix out7 x3 fun x6 =>
    gd (R64 (x6 + x4.2)) <|
    some (decide ((x6 + x4.2) < x5)))) fun k2 =>
    if k2 = true then
    (ix out7 x3 fun x7 =>
    gd (R64 (x7 + x4.2)) <|
    ix out7 x4.1 fun _x8 =>
    bv (out7.set (x4.1 : Int).toNat (x7 + x4.2)) fun l2 =>
    ap line3 [x4.1] fun line4 =>
    hear_desk_from_l3 x3 rec2 tl2 l2 line4)
    else
    (hear_desk_from_l3 x3 rec2 tl2 out7 line3)
def hear_desk_from_l2 (wide : Int) (plots : List Int) (down : Int) (right_ : Int) (blows : Bool) : Nat → (List Int) → (List Int) → Option (List Int)
  | 0, _, _ => none
  | fu2 + 1, out6, line =>
    if 0 < (line.length : Int) then
    (ix line 0 fun x3 =>
    gd ((0 ≤ (1 : Int) ∧ (1 : Int) ≤ (line.length : Int)) ∧ (line.length : Int) ≤ line.length) <|
    bv (sl line 1 (line.length : Int)) fun line2 =>
    b1 (hear_desk_next wide plots down right_ blows x3) fun y =>
    hear_desk_from_l3 x3 (hear_desk_from_l2 wide plots down right_ blows fu2) y out6 line2)
    else
    (some out6)
def hear_desk_from (wide : Int) (plots : List Int) (down : Int) (right_ : Int) (blows : Bool) (stand : Int) : Option (List Int) :=
    gd (0 ≤ (plots.length : Int) ∧ (plots.length : Int) ≤ 1048576) <|
    bv (List.replicate ((plots.length : Int) : Int).toNat 0 : List Int) fun l =>
    b1 (gd (R64 0 ∧ R64 (l.length : Int)) <|
    hear_desk_from_l1 (Int.toNat ((l.length : Int) - 0)) 0 l) fun out =>
    ix out stand fun _x2 =>
    bv (out.set (stand : Int).toNat 0) fun out4 =>
    b1 (hear_desk_from_l2 wide plots down right_ blows FU out4 [stand]) fun out5 =>
    some out5
def hear_desk_heard_l2 (plots : List Int) (voice : Int) (k : Int) : List Int → Int → (List (List Bool)) → Option (List (List Bool))
  | [], _k2, out4 =>
    some out4
  | x2 :: tl4, k2, out4 =>
    b1 (ix plots k2 fun x3 =>
    if x3 = 1 then
    (b1 (hear_in x2 0 voice) fun ok =>
    some ok)
    else
    (some false)) fun k3 =>
    if k3 = true then
    (ix out4 k2 fun x4 =>
    ix x4 k fun _x5 =>
    bv (out4.set (k2 : Int).toNat (x4.set (k : Int).toNat true)) fun out5 =>
    hear_desk_heard_l2 plots voice k tl4 (k2 + 1) out5)
    else
    (hear_desk_heard_l2 plots voice k tl4 (k2 + 1) out4)
def hear_desk_heard_l1 (wide : Int) (plots : List Int) (down : Int) (right_ : Int) (blows : Bool) (voice : Int) : List Int → Int → (List (List Bool)) → Option (List (List Bool))
  | [], _k, out2 =>
    some out2
  | x :: tl2, k, out2 =>
    b1 (if x ≠ 0 then
    (some out2)
    else
    (b1 (hear_desk_from wide plots down right_ blows k) fun l2 =>
    hear_desk_heard_l2 plots voice k l2 0 out2)) fun out3 =>
    hear_desk_heard_l1 wide plots down right_ blows voice tl2 (k + 1) out3
def hear_desk_heard (wide : Int) (plots : List Int) (down : Int) (right_ : Int) (blows : Bool) (voice : Int) : Option (List (List Bool)) :=
    gd (0 ≤ (plots.length : Int) ∧ (plots.length : Int) ≤ 1048576) <|
    bv (List.replicate ((plots.length : Int) : Int).toNat (List.replicate 30 false) : List (List Bool)) fun l =>
    b1 (hear_desk_heard_l1 wide plots down right_ blows voice plots 0 l) fun out =>
    some out
def hear_aired (wide : Int) (plots : List Int) (wind : Int) (voice : Int) : Option ((List (List Bool)) × Int) :=
    b1 (hear_Check wide plots) fun n =>
    if n ≠ 0 then
    (some ([], n))
    else
    (b1 (hear_CheckAir wind voice) fun n2 =>
    if n2 ≠ 0 then
    (some ([], n2))
    else
    (b2 (hear_opened wide plots wind) fun d _n3 =>
    b5 d fun wide2 plots2 down right_ blows =>
    b1 (hear_desk_heard wide2 plots2 down right_ blows voice) fun l =>
    some (l, 0)))
def slices_Index_int_int_j1 : Option Int :=
    some (-1)
def slices_Index_int_int_l2 (v : Int) : List Int → Int → Option Int
  | [], _k =>
    slices_Index_int_int_j1
  | x :: tl2, k =>
    if v = x then
    (some k)
    else
    (slices_Index_int_int_l2 v tl2 (k + 1))
def slices_Index_int_int (s_ : List Int) (v : Int) : Option Int :=
    slices_Index_int_int_l2 v s_ 0
def slices_Contains_int_int (s_ : List Int) (v : Int) : Option Bool :=
    b1 (slices_Index_int_int s_ v) fun n =>
    some (decide (0 ≤ n))
def hear_Town_is (wide : Int) (plots : List Int) (p : Int) (kind : Int) : Option Int :=
    b1 (hear_Town_plot wide plots p) fun ok =>
    if (!ok) = true then
    (some 1)
    else
    (ix plots p fun x =>
    if x ≠ kind then
    (some 8)
    else
    (some 0))
def hear_Town_named_j1 : Option Int :=
    some 0
def hear_Town_named_l2 (wide : Int) (plots : List Int) (houses : List Int) : List Int → Int → Option Int
  | [], _k =>
    hear_Town_named_j1
  | x :: tl2, k =>
    b1 (hear_Town_is wide plots x 1) fun n =>
    if n ≠ 0 then
    (some n)
    else
    (gd ((0 ≤ (0 : Int) ∧ (0 : Int) ≤ k) ∧ k ≤ houses.length) <|
    bv (sl houses 0 k) fun houses2 =>
    b1 (slices_Contains_int_int houses2 x) fun ok =>
    if ok = true then
    (some 5)
    else
    (hear_Town_named_l2 wide plots houses tl2 (k + 1)))
def hear_Town_named (wide : Int) (plots : List Int) (houses : List Int) : Option Int :=
    hear_Town_named_l2 wide plots houses houses 0
def hear_ones_l1 : Nat → Int → Int → Option Int
  | 0, _, _ => none
  | fu1 + 1, set_2, n2 =>
    if 0 < set_2 then
    (gd (R64 (n2 + (Int.tmod set_2 2))) <|
    gd ((2 : Int) ≠ 0 ∧ R64 (Int.tdiv set_2 2)) <|
    hear_ones_l1 fu1 (Int.tdiv set_2 2) (n2 + (Int.tmod set_2 2)))
    else
    (some n2)
def hear_ones (set_ : Int) : Option Int :=
    b1 (hear_ones_l1 FU set_ 0) fun n =>
    some n
def hear_asked_l1 (l : List (List Bool)) : List Int → (List (List Bool)) → Option (List (List Bool))
  | [], q_ears2 =>
    some q_ears2
  | x :: tl2, q_ears2 =>
    ix l x fun x2 =>
    ap q_ears2 [x2] fun l2 =>
    hear_asked_l1 l tl2 l2
def hear_asked (wide : Int) (plots : List Int) (wind : Int) (voice : Int) (houses : List Int) : Option ((List (List Bool)) × Bool × Int) :=
    b2 (hear_aired wide plots wind voice) fun l n =>
    if n ≠ 0 then
    (some ([], false, n))
    else
    (b1 (hear_Town_named wide plots houses) fun n2 =>
    if n2 ≠ 0 then
    (some ([], false, n2))
    else
    (b1 (hear_asked_l1 l houses []) fun q_ears =>
    some (q_ears, true, 0)))
def slices_Index_hear_ears_hear_ears_j1 : Option Int :=
    some (-1)
def slices_Index_hear_ears_hear_ears_l2 (v : List Bool) : List (List Bool) → Int → Option Int
  | [], _k =>
    slices_Index_hear_ears_hear_ears_j1
  | x :: tl2, k =>
    if v = x then
    (some k)
    else
    (slices_Index_hear_ears_hear_ears_l2 v tl2 (k + 1))
def slices_Index_hear_ears_hear_ears (s_ : List (List Bool)) (v : List Bool) : Option Int :=
    slices_Index_hear_ears_hear_ears_l2 v s_ 0
def slices_Contains_hear_ears_hear_ears (s_ : List (List Bool)) (v : List Bool) : Option Bool :=
    b1 (slices_Index_hear_ears_hear_ears s_ v) fun n =>
    some (decide (0 ≤ n))
def hear_quarter_deaf (ears : List (List Bool)) (_count : Int → Option Int) : Option Bool :=
    b1 (slices_Contains_hear_ears_hear_ears ears (List.replicate 30 false)) fun ok =>
    some ok
def slices_Compact_hear_ears_hear_ears_l4 (k : Int) : Nat → (List (List Bool)) → Int → Int → Option ((List (List Bool)) × Int)
  | 0, _, _, _ => none
  | fu4 + 1, s_3, k3, k2_2 =>
    if k2_2 < ((s_3.length - Int.toNat k : Nat) : Int) then
    (ix (s_3.drop (Int.toNat k)) k2_2 fun x3 =>
    gd (R64 (k2_2 - 1)) <|
    ix (s_3.drop (Int.toNat k)) (k2_2 - 1) fun x4 =>
    if x3 ≠ x4 then
    (ix s_3 k3 fun _x5 =>
    bv (s_3.set (k3 : Int).toNat x3) fun s_4 =>
    gd (R64 (k3 + 1)) <|
    gd (R64 (k2_2 + 1)) <|
    slices_Compact_hear_ears_hear_ears_l4 k fu4 s_4 (k3 + 1) (k2_2 + 1))
    else
    (gd (R64 (k2_2 + 1)) <|
    slices_Compact_hear_ears_hear_ears_l4 k fu4 s_3 k3 (k2_2 + 1)))
    else
    (some (s_3, k3))
def slices_Compact_hear_ears_hear_ears_j3 (k : Int) (rec2 : Int → Option (List (List Bool))) : Option (List (List Bool)) :=
    rec2 (k + 1)
def slices_Compact_hear_ears_hear_ears_j1 (s_ : List (List Bool)) : Option (List (List Bool)) :=
    some s_
def slices_Compact_hear_ears_hear_ears_l2 (s_ : List (List Bool)) : Nat → Int → Option (List (List Bool))
  | 0, _k =>
    slices_Compact_hear_ears_hear_ears_j1 s_
  | fu2 + 1, k =>
    ix s_ k fun x =>
    gd (R64 (k - 1)) <|
    ix s_ (k - 1) fun x2 =>
    if x = x2 then
    (gd (0 ≤ k ∧ k ≤ (s_.length : Int)) <|
    b2 (slices_Compact_hear_ears_hear_ears_l4 k FU s_ k 1) fun s_2 k2 =>
    gd (0 ≤ k2 ∧ k2 ≤ (s_2.length : Int)) <|
    bv (s_2.take (Int.toNat k2) ++ List.replicate (s_2.length - Int.toNat k2) (List.replicate 30 false) : List (List Bool)) fun s_5 =>
    gd ((0 ≤ (0 : Int) ∧ (0 : Int) ≤ k2) ∧ k2 ≤ s_5.length) <|
    bv (sl s_5 0 k2) fun s_6 =>
    some s_6)
    else
    slices_Compact_hear_ears_hear_ears_j3 k (slices_Compact_hear_ears_hear_ears_l2 s_ fu2)
def slices_Compact_hear_ears_hear_ears (s_ : List (List Bool)) : Option (List (List Bool)) :=
    if (s_.length : Int) < 2 then
    (some s_)
    else
    (gd (R64 1 ∧ R64 (s_.length : Int)) <|
    slices_Compact_hear_ears_hear_ears_l2 s_ (Int.toNat ((s_.length : Int) - 1)) 1)
def slices_Clone_hear_ears_hear_ears (s_ : List (List Bool)) : Option (List (List Bool)) :=
    nilIf (s_ = []) (some []) (ap ([] : List (List Bool)) s_ fun l =>
    some l)
def hear_quarter_by_l1 (stand : Int) : List (List Bool) → Int → Int → Option Int
  | [], _k, set_2 =>
    some set_2
  | x :: tl2, k, set_2 =>
    ix x stand fun x2 =>
    if x2 = true then
    (gd ((0 ≤ (k : Int) ∧ (k : Int) < 64) ∧ R64 (shl 1 k)) <|
    hear_quarter_by_l1 stand tl2 (k + 1) (bor set_2 (shl 1 k)))
    else
    (hear_quarter_by_l1 stand tl2 (k + 1) set_2)
def hear_quarter_by (ears : List (List Bool)) (_count : Int → Option Int) (stand : Int) : Option Int :=
    b1 (hear_quarter_by_l1 stand ears 0 0) fun set_ =>
    some set_
def hear_least_l1 : List Int → Int → Option Int
  | [], n3 =>
    some n3
  | x :: tl2, n3 =>
    hear_least_l1 tl2 (if x < n3 then x else n3)
def hear_least (n : Int) (more : List Int) : Option Int :=
    b1 (hear_least_l1 more n) fun n2 =>
    some n2
def hear_quarter_chosen_1B (rec_ : Int → Int → Int → (List (List Bool)) → (Int → Option Int) → (List ((Int × Int × Int) × Int)) → Option (Int × (List ((Int × Int × Int) × Int)))) (from_ : Int) (left_ : Int) (set_ : Int) (ears : List (List Bool)) (count : Int → Option Int) (met : List ((Int × Int × Int) × Int)) : Option (Int × (List ((Int × Int × Int) × Int))) :=
    b1 (if left_ = 0 then
    (some true)
    else
    (some (decide (from_ = 30)))) fun k =>
    if k = true then
    (b1 (count set_) fun n =>
    some (n, met))
    else
    (bv ((mget met (from_, left_, set_)).getD 0) fun n2 =>
    if ((mget met (from_, left_, set_)).isSome) = true then
    (some (n2, met))
    else
    (gd (R64 (from_ + 1)) <|
    b2 (rec_ (from_ + 1) left_ set_ ears count met) fun n3 met2 =>
    b2 (b1 (hear_quarter_by ears count from_) fun n5 =>
    if (bor set_ n5) ≠ set_ then
    (gd (R64 (from_ + 1)) <|
    gd (R64 (left_ - 1)) <|
    b2 (rec_ (from_ + 1) (left_ - 1) (bor set_ n5) ears count met2) fun n6 met3 =>
    some (met3, if n6 > n3 then n6 else n3))
    else
    (some (met2, n3))) fun m n4 =>
    bv (mput m (from_, left_, set_) n4) fun met4 =>
    some (n4, met4)))
def hear_quarter_chosen_1 : Nat → Int → Int → Int → (List (List Bool)) → (Int → Option Int) → (List ((Int × Int × Int) × Int)) → Option (Int × (List ((Int × Int × Int) × Int)))
  | 0, _, _, _, _, _, _ => none
  | fu + 1, from_, left_, set_, ears, count, met =>
    hear_quarter_chosen_1B (hear_quarter_chosen_1 fu) from_ left_ set_ ears count met
def hear_quarter_chosen_l1 (ears : List (List Bool)) (count : Int → Option Int) (n2 : Int) : Nat → (List ((Int × Int × Int) × Int)) → Int → Option ((List ((Int × Int × Int) × Int)) × Int)
  | 0, _, _ => none
  | fu1 + 1, m2, x_left2 =>
    b2 (hear_quarter_chosen_1 FU 0 x_left2 0 ears count m2) fun n3 met2 =>
    if n3 < n2 then
    (gd (R64 (x_left2 + 1)) <|
    hear_quarter_chosen_l1 ears count n2 fu1 met2 (x_left2 + 1))
    else
    (some (met2, x_left2))
def hear_quarter_chosen_l3 (ears : List (List Bool)) (count : Int → Option Int) (n2 : Int) (x_left3 : Int) (x_set : Int) : Nat → (List ((Int × Int × Int) × Int)) → Int → Option ((List ((Int × Int × Int) × Int)) × Int)
  | 0, _, _ => none
  | fu3 + 1, m5, x_from3 =>
    gd (R64 (x_from3 + 1)) <|
    gd (R64 (x_left3 - 1)) <|
    b1 (hear_quarter_by ears count x_from3) fun n4 =>
    b2 (hear_quarter_chosen_1 FU (x_from3 + 1) (x_left3 - 1) (bor x_set n4) ears count m5) fun n5 met3 =>
    if n5 < n2 then
    (gd (R64 (x_from3 + 1)) <|
    hear_quarter_chosen_l3 ears count n2 x_left3 x_set fu3 met3 (x_from3 + 1))
    else
    (some (met3, x_from3))
def hear_quarter_chosen_l2 (ears : List (List Bool)) (count : Int → Option Int) (n2 : Int) : Nat → (List ((Int × Int × Int) × Int)) → Int → Int → Int → (List Int) → Option (List Int)
  | 0, _, _, _, _, _ => none
  | fu2 + 1, m3, x_from, x_left3, x_set, out2 =>
    if 0 < x_left3 then
    (b2 (hear_quarter_chosen_l3 ears count n2 x_left3 x_set FU m3 x_from) fun m4 x_from2 =>
    ap out2 [x_from2] fun out3 =>
    gd (R64 (x_from2 + 1)) <|
    gd (R64 (x_left3 - 1)) <|
    b1 (hear_quarter_by ears count x_from2) fun n6 =>
    hear_quarter_chosen_l2 ears count n2 fu2 m4 (x_from2 + 1) (x_left3 - 1) (bor x_set n6) out3)
    else
    (some out2)
def hear_quarter_chosen (ears : List (List Bool)) (count : Int → Option Int) (most : Int) : Option ((List Int) × Int) :=
    b1 (hear_least most [(ears.length : Int)]) fun n =>
    b2 (hear_quarter_chosen_1 FU 0 n 0 ears count []) fun n2 met =>
    b2 (hear_quarter_chosen_l1 ears count n2 FU met 0) fun m x_left =>
    b1 (hear_quarter_chosen_l2 ears count n2 FU m 0 x_left 0 []) fun out =>
    some (out, n2)
def hear_Fewest (wide : Int) (plots : List Int) (wind : Int) (voice : Int) (houses : List Int) : Option ((List Int) × Int) :=
    b3 (hear_asked wide plots wind voice houses) fun l y n =>
    if n ≠ 0 then
    (some ([], n))
    else
    (gd (y = true) <|
    b1 (hear_quarter_deaf l (fun xx_ : Int => hear_ones xx_)) fun ok =>
    if ok = true then
    (some ([], 6))
    else
    (b1 (slices_Clone_hear_ears_hear_ears l) fun l2 =>
    b1 (slices_Compact_hear_ears_hear_ears l2) fun l3 =>
    b2 (hear_quarter_chosen l3 (fun xx_ : Int => hear_ones xx_) (l3.length : Int)) fun l4 _n2 =>
    some (l4, 0)))
def slices_Equal_int_int_j1 : Option Bool :=
    some true
def slices_Equal_int_int_l2 (s2 : List Int) : List Int → Int → Option Bool
  | [], _k =>
    slices_Equal_int_int_j1
  | x :: tl2, k =>
    ix s2 k fun x2 =>
    if x ≠ x2 then
    (some false)
    else
    (slices_Equal_int_int_l2 s2 tl2 (k + 1))
def slices_Equal_int_int (s1 : List Int) (s2 : List Int) : Option Bool :=
    if (s1.length : Int) ≠ (s2.length : Int) then
    (some false)
    else
    (slices_Equal_int_int_l2 s2 s1 0)
def oyezkit_Like_int (a : List Int) (b : List Int) : Option Bool :=
    b1 (slices_Equal_int_int a b) fun ok =>
    some ok
def oyezlaw01_Drawn_l2 (x : List Int) : Nat → (List Int) → Nat → Option (List Int)
  | 0, _, _ => none
  | fu2 + 1, t_plots4, pos =>
    if pos < x.length then
    (ix x (pos : Nat) fun c =>
    gd (0 ≤ c ∧ c < 128) <|
    b1 (if c = 115 then
    (some 0)
    else
    (some 2)) fun p =>
    b1 (if c = 104 then
    (some 1)
    else
    (some p)) fun p2 =>
    ap t_plots4 [p2] fun t =>
    oyezlaw01_Drawn_l2 x fu2 t (pos + 1))
    else
    (some t_plots4)
def oyezlaw01_Drawn_l1 : List (List Int) → Int → (List Int) → Option (Int × (List Int))
  | [], t_wide2, t_plots2 =>
    some (t_wide2, t_plots2)
  | x :: tl2, _t_wide2, t_plots2 =>
    b1 (oyezlaw01_Drawn_l2 x FU t_plots2 0) fun t_plots3 =>
    oyezlaw01_Drawn_l1 tl2 (x.length : Int) t_plots3
def oyezlaw01_Drawn (rows : List (List Int)) : Option (Int × (List Int)) :=
    b2 (oyezlaw01_Drawn_l1 rows 0 []) fun t_wide t_plots =>
    some (t_wide, t_plots)
def hear_standing (wide : Int) (plots : List Int) (wind : Int) (stand : Int) : Option ((Option (Int × (List Int) × Int × Int × Bool)) × Int) :=
    b2 (hear_opened wide plots wind) fun d n =>
    if n ≠ 0 then
    (some (none, n))
    else
    (b1 (hear_Town_is wide plots stand 0) fun n2 =>
    if n2 ≠ 0 then
    (some (none, n2))
    else
    (some (d, 0)))
def hear_Needs (wide : Int) (plots : List Int) (wind : Int) (stand : Int) : Option ((List Int) × Int) :=
    b2 (hear_standing wide plots wind stand) fun d n =>
    if n ≠ 0 then
    (some ([], n))
    else
    (b5 d fun wide2 plots2 down right_ blows =>
    b1 (hear_desk_from wide2 plots2 down right_ blows stand) fun l =>
    some (l, 0))
def hear_Holds_j5 : Option (Bool × Int) :=
    some (false, 0)
def hear_Holds_j3 (k : Int) (rec2 : Int → Option (Bool × Int)) : Option (Bool × Int) :=
    rec2 (k + 1)
def hear_Holds_l4 (wide : Int) (plots : List Int) (table : List Int) (k : Int) (rec2 : Int → Option (Bool × Int)) : List (Int × Int) → Option (Bool × Int)
  | [] =>
    hear_Holds_j3 k rec2
  | x3 :: tl4 =>
    b1 (b1 (hear_Town_wall wide plots k) fun ok =>
    if (!ok) = true then
    (ix table x3.1 fun x4 =>
    ix table k fun x5 =>
    if x5 < x4 then
    (some (decide ((x3.2 % 18446744073709551616) < (((x4 % 18446744073709551616) - (x5 % 18446744073709551616)) % 18446744073709551616))))
    else
    (some false))
    else
    (some false)) fun k2 =>
    if k2 = true then
    hear_Holds_j5
    else
    hear_Holds_l4 wide plots table k rec2 tl4
def hear_Holds_j1 : Option (Bool × Int) :=
    some (true, 0)
def hear_Holds_l2 (wide : Int) (plots : List Int) (table : List Int) (d : Option (Int × (List Int) × Int × Int × Bool)) : List Int → Int → Option (Bool × Int)
  | [], _k =>
    hear_Holds_j1
  | _x2 :: tl2, k =>
    b5 d fun wide2 plots2 down right_ blows =>
    b1 (hear_desk_next wide2 plots2 down right_ blows k) fun y =>
    hear_Holds_l4 wide plots table k (hear_Holds_l2 wide plots table d tl2) y
def hear_Holds (wide : Int) (plots : List Int) (wind : Int) (stand : Int) (table : List Int) : Option (Bool × Int) :=
    b2 (hear_standing wide plots wind stand) fun d n =>
    if n ≠ 0 then
    (some (false, n))
    else
    (if (table.length : Int) ≠ (plots.length : Int) then
    (some (false, 2))
    else
    (ix table stand fun x =>
    if x ≠ 0 then
    (some (false, 0))
    else
    (hear_Holds_l2 wide plots table d plots 0)))
def hear_Louder_l1 (wide : Int) (plots : List Int) (wind : Int) (houses : List Int) (stands : Int) : Nat → Int → Option Int
  | 0, _k =>
    some 0
  | fu1 + 1, k =>
    b3 (hear_asked wide plots wind (k + 1) houses) fun l2 y2 _n2 =>
    gd (y2 = true) <|
    b2 (hear_quarter_chosen l2 (fun xx_ : Int => hear_ones xx_) stands) fun _l3 n3 =>
    if n3 = (houses.length : Int) then
    (some (k + 1))
    else
    (hear_Louder_l1 wide plots wind houses stands fu1 (k + 1))
def hear_Louder (wide : Int) (plots : List Int) (wind : Int) (houses : List Int) (stands : Int) : Option (Int × Int) :=
    b3 (hear_asked wide plots wind 40 houses) fun _l _y n =>
    if n ≠ 0 then
    (some (0, n))
    else
    (b1 (hear_in stands 0 30) fun ok =>
    if (!ok) = true then
    (some (0, 3))
    else
    (b1 (gd (R64 0 ∧ R64 40) <|
    hear_Louder_l1 wide plots wind houses stands (Int.toNat (40 - 0)) 0) fun out =>
    if out = 0 then
    (some (0, 6))
    else
    (some (out, 0))))
def hear_Need (wide : Int) (plots : List Int) (wind : Int) (stand : Int) (plot : Int) : Option (Int × Int) :=
    b2 (hear_Needs wide plots wind stand) fun l n =>
    if n ≠ 0 then
    (some (0, n))
    else
    (b1 (hear_Town_plot wide plots plot) fun ok =>
    if (!ok) = true then
    (some (0, 1))
    else
    (ix l plot fun x =>
    if x = (-1) then
    (some (0, 6))
    else
    (some (x, 0))))
def slices_Reverse_int_int_l1 : Nat → (List Int) → Int → Int → Option (List Int)
  | 0, _, _, _ => none
  | fu1 + 1, s_2, i, j =>
    if i < j then
    (ix s_2 j fun x =>
    ix s_2 i fun x2 =>
    bv (s_2.set (i : Int).toNat x) fun l =>
    ix l j fun _x3 =>
    bv (l.set (j : Int).toNat x2) fun l2 =>
    gd (R64 (i + 1)) <|
    gd (R64 (j - 1)) <|
    slices_Reverse_int_int_l1 fu1 l2 (i + 1) (j - 1))
    else
    (some s_2)
def slices_Reverse_int_int (s_ : List Int) : Option (List Int) :=
    gd (R64 ((s_.length : Int) - 1)) <|
    slices_Reverse_int_int_l1 FU s_ 0 ((s_.length : Int) - 1)
def hear_Way_l3 (l : List Int) (p : Int) (k : Int) : List (Int × Int) → Int → Option Int
  | [], before4 =>
    some before4
  | x2 :: tl4, before4 =>
    b1 (if x2.1 = p then
    (ix l k fun x3 =>
    if x3 ≠ (-1) then
    (gd (R64 (x3 + x2.2)) <|
    ix l p fun x4 =>
    some (decide ((x3 + x2.2) = x4)))
    else
    (some false))
    else
    (some false)) fun k2 =>
    if k2 = true then
    (hear_Way_l3 l p k tl4 k)
    else
    (hear_Way_l3 l p k tl4 before4)
def hear_Way_l2 (wide2 : Int) (plots2 : List Int) (down : Int) (right_ : Int) (blows : Bool) (l : List Int) (p : Int) : List Int → Int → Int → Option Int
  | [], _k, before2 =>
    some before2
  | _x :: tl2, k, before2 =>
    b1 (b1 (hear_desk_next wide2 plots2 down right_ blows k) fun y =>
    hear_Way_l3 l p k y before2) fun before3 =>
    hear_Way_l2 wide2 plots2 down right_ blows l p tl2 (k + 1) before3
def hear_Way_l1 (plots : List Int) (stand : Int) (wide2 : Int) (plots2 : List Int) (down : Int) (right_ : Int) (blows : Bool) (l : List Int) : Nat → (List Int) → Int → Option (List Int)
  | 0, _, _ => none
  | fu1 + 1, out2, p =>
    if p ≠ stand then
    (b2 (b1 (hear_Way_l2 wide2 plots2 down right_ blows l p plots 0 (-1)) fun before =>
    ap out2 [before] fun out4 =>
    some (out4, before)) fun out3 p2 =>
    hear_Way_l1 plots stand wide2 plots2 down right_ blows l fu1 out3 p2)
    else
    (some out2)
def hear_Way (wide : Int) (plots : List Int) (wind : Int) (stand : Int) (plot : Int) : Option ((List Int) × Int) :=
    b2 (hear_Need wide plots wind stand plot) fun _n n2 =>
    if n2 ≠ 0 then
    (some ([], n2))
    else
    (b2 (hear_opened wide plots wind) fun d _n3 =>
    b5 d fun wide2 plots2 down right_ blows =>
    b1 (hear_desk_from wide2 plots2 down right_ blows stand) fun l =>
    b1 (hear_Way_l1 plots stand wide2 plots2 down right_ blows l FU [plot] plot) fun out =>
    b1 (slices_Reverse_int_int out) fun s_ =>
    some (s_, 0))
def oyezlaw01_awake : Option Bool :=
    b2 (oyezlaw01_Drawn [[115, 104, 115, 104]]) fun n l =>
    b2 (oyezlaw01_Drawn [[104, 115, 104], [115, 119, 115]]) fun n2 l2 =>
    b2 (hear_Needs n l 4 0) fun l3 n3 =>
    b2 (hear_Fewest n l 0 5 [1, 3]) fun l4 n4 =>
    b2 (hear_Fewest n2 l2 0 3 [0, 2]) fun l5 n5 =>
    b2 (hear_Holds n2 l2 0 1 [3, 0, 3, 5, 0, 5]) fun ok n6 =>
    b1 (if n3 ≠ 0 then
    (some true)
    else
    (if n4 ≠ 0 then
    (some true)
    else
    (if n5 ≠ 0 then
    (some true)
    else
    (if n6 ≠ 0 then
    (some true)
    else
    (if (!ok) = true then
    (some true)
    else
    (b1 (oyezkit_Like_int l3 [0, 5, 9, 14]) fun ok2 =>
    if (!ok2) = true then
    (some true)
    else
    (b1 (oyezkit_Like_int l4 [2]) fun ok3 =>
    if (!ok3) = true then
    (some true)
    else
    (b1 (oyezkit_Like_int l5 [1]) fun ok4 =>
    some (!ok4))))))))) fun k =>
    if k = true then
    (some false)
    else
    (b2 (hear_Louder n l 2 [1, 3] 1) fun n7 n8 =>
    b2 (hear_Way n2 l2 0 3 2) fun l6 n9 =>
    b2 (oyezlaw01_Drawn [[115, 104, 119, 104]]) fun n10 l7 =>
    b2 (hear_Need n10 l7 0 0 3) fun _n11 n12 =>
    if n8 = 0 then
    (if n9 = 0 then
    (if n7 = 5 then
    (b1 (oyezkit_Like_int l6 [3, 0, 1, 2]) fun ok5 =>
    if ok5 = true then
    (some (decide (n12 = 6)))
    else
    (some false))
    else
    (some false))
    else
    (some false))
    else
    (some false))
def oyezkit_Copy_Plot (l : List Int) : Option (List Int) :=
    gd (0 ≤ (l.length : Int) ∧ (l.length : Int) ≤ 1048576) <|
    bv (List.replicate ((l.length : Int) : Int).toNat 0 : List Int) fun l2 =>
    bv (cpy l2 l) fun out =>
    some out
def oyezlaw01_Own (wide : Int) (plots : List Int) : Option (Int × (List Int)) :=
    b1 (oyezkit_Copy_Plot plots) fun l =>
    some (wide, l)
def oyezkit_Copy_int (l : List Int) : Option (List Int) :=
    gd (0 ≤ (l.length : Int) ∧ (l.length : Int) ≤ 1048576) <|
    bv (List.replicate ((l.length : Int) : Int).toNat 0 : List Int) fun l2 =>
    bv (cpy l2 l) fun out =>
    some out
def oyezlaw01_theirs_l1 : List Int → (List Int) → Option (List Int)
  | [], out_plots2 =>
    some out_plots2
  | x :: tl2, out_plots2 =>
    ap out_plots2 [x] fun out =>
    oyezlaw01_theirs_l1 tl2 out
def oyezlaw01_theirs (wide : Int) (plots : List Int) : Option (Int × (List Int)) :=
    b1 (oyezlaw01_theirs_l1 plots []) fun out_plots =>
    some (wide, out_plots)
def oyezref01_has_j1 : Option Bool :=
    some false
def oyezref01_has_l2 (n : Int) : List Int → Option Bool
  | [] =>
    oyezref01_has_j1
  | x :: tl2 =>
    if x = n then
    (some true)
    else
    (oyezref01_has_l2 n tl2)
def oyezref01_has (l : List Int) (n : Int) : Option Bool :=
    oyezref01_has_l2 n l
def oyezref01_off (n : Int) (lo : Int) (hi : Int) : Option Bool :=
    if n < lo then
    (some true)
    else
    (some (decide (hi < n)))
def oyezref01_Check_l3 : List Int → Int → Option Int
  | [], houses2 =>
    some houses2
  | x2 :: tl4, houses2 =>
    if x2 = 1 then
    (gd (R64 (houses2 + 1)) <|
    oyezref01_Check_l3 tl4 (houses2 + 1))
    else
    (oyezref01_Check_l3 tl4 houses2)
def oyezref01_Check_j1 (plots : List Int) : Option Int :=
    b1 (oyezref01_Check_l3 plots 0) fun houses =>
    if 10 < houses then
    (some 2)
    else
    (some 0)
def oyezref01_Check_l2 (plots : List Int) : List Int → Option Int
  | [] =>
    oyezref01_Check_j1 plots
  | x :: tl2 =>
    b1 (oyezref01_off x 0 2) fun ok3 =>
    if ok3 = true then
    (some 3)
    else
    (oyezref01_Check_l2 plots tl2)
def oyezref01_Check (wide : Int) (plots : List Int) : Option Int :=
    b1 (b1 (oyezref01_off wide 1 6) fun ok =>
    if ok = true then
    (some true)
    else
    (b1 (oyezref01_off (plots.length : Int) 1 30) fun ok2 =>
    if ok2 = true then
    (some true)
    else
    (gd (wide ≠ 0) <|
    some (decide ((Int.tmod (plots.length : Int) wide) ≠ 0))))) fun k =>
    if k = true then
    (some 2)
    else
    (oyezref01_Check_l2 plots plots)
def oyezref01_CheckAir (wind : Int) (voice : Int) : Option Int :=
    b1 (b1 (oyezref01_off wind 0 4) fun ok =>
    if ok = true then
    (some true)
    else
    (b1 (oyezref01_off voice 1 40) fun ok2 =>
    some ok2)) fun k =>
    if k = true then
    (some 3)
    else
    (some 0)
def oyezref01_Is (_wide : Int) (plots : List Int) (p : Int) (kind : Int) : Option Int :=
    gd (R64 ((plots.length : Int) - 1)) <|
    b1 (oyezref01_off p 0 ((plots.length : Int) - 1)) fun ok =>
    if ok = true then
    (some 1)
    else
    (ix plots p fun x =>
    if x ≠ kind then
    (some 8)
    else
    (some 0))
def oyezref01_Asked_j1 : Option Int :=
    some 0
def oyezref01_Asked_l2 (wide : Int) (plots : List Int) (houses : List Int) : List Int → Int → Option Int
  | [], _i =>
    oyezref01_Asked_j1
  | x :: tl2, i =>
    b1 (oyezref01_Is wide plots x 1) fun n3 =>
    if n3 ≠ 0 then
    (some n3)
    else
    (gd ((0 ≤ (0 : Int) ∧ (0 : Int) ≤ i) ∧ i ≤ houses.length) <|
    bv (sl houses 0 i) fun houses2 =>
    b1 (oyezref01_has houses2 x) fun ok =>
    if ok = true then
    (some 5)
    else
    (oyezref01_Asked_l2 wide plots houses tl2 (i + 1)))
def oyezref01_Asked (wide : Int) (plots : List Int) (wind : Int) (voice : Int) (houses : List Int) : Option Int :=
    b1 (oyezref01_Check wide plots) fun n =>
    if n ≠ 0 then
    (some n)
    else
    (b1 (oyezref01_CheckAir wind voice) fun n2 =>
    if n2 ≠ 0 then
    (some n2)
    else
    (oyezref01_Asked_l2 wide plots houses houses 0))
def oyezref01_Stand (wide : Int) (plots : List Int) (wind : Int) (stand : Int) : Option Int :=
    b1 (oyezref01_Check wide plots) fun n =>
    if n ≠ 0 then
    (some n)
    else
    (b1 (oyezref01_off wind 0 4) fun ok =>
    if ok = true then
    (some 3)
    else
    (b1 (oyezref01_Is wide plots stand 0) fun n2 =>
    some n2))
def oyezref01_Step (wide : Int) (plots : List Int) (wind : Int) (p : Int) (q : Int) : Option Int :=
    b1 (gd (R64 ((plots.length : Int) - 1)) <|
    b1 (oyezref01_off q 0 ((plots.length : Int) - 1)) fun ok =>
    if ok = true then
    (some true)
    else
    (gd (R64 ((plots.length : Int) - 1)) <|
    b1 (oyezref01_off p 0 ((plots.length : Int) - 1)) fun ok2 =>
    if ok2 = true then
    (some true)
    else
    (ix plots q fun x =>
    if x = 2 then
    (some true)
    else
    (ix plots p fun x2 =>
    some (decide (x2 = 2)))))) fun k =>
    if k = true then
    (some 0)
    else
    (gd ((wide : Int) ≠ 0 ∧ R64 (Int.tdiv q wide)) <|
    gd ((wide : Int) ≠ 0 ∧ R64 (Int.tdiv p wide)) <|
    gd (R64 ((Int.tdiv q wide) - (Int.tdiv p wide))) <|
    bv ((Int.tdiv q wide) - (Int.tdiv p wide)) fun down =>
    gd (wide ≠ 0) <|
    gd (wide ≠ 0) <|
    gd (R64 ((Int.tmod q wide) - (Int.tmod p wide))) <|
    bv ((Int.tmod q wide) - (Int.tmod p wide)) fun right_ =>
    gd (R64 (down * down)) <|
    gd (R64 (right_ * right_)) <|
    gd (R64 ((down * down) + (right_ * right_))) <|
    if ((down * down) + (right_ * right_)) ≠ 1 then
    (some 0)
    else
    (b1 (if wind = 1 then
    (gd (R64 (-down)) <|
    some (-down))
    else
    (if wind = 2 then
    (some right_)
    else
    (if wind = 3 then
    (some down)
    else
    (if wind = 4 then
    (gd (R64 (-right_)) <|
    some (-right_))
    else
    (some 0))))) fun along =>
    b1 (if along = 1 then
    (some 1)
    else
    (some 2)) fun n =>
    b1 (if along = (-1) then
    (some 4)
    else
    (some n)) fun n2 =>
    ix plots q fun x3 =>
    gd (R64 (n2 + (Int.tmod x3 2))) <|
    some (n2 + (Int.tmod x3 2))))
def oyezref01_Needs_l1 : Nat → (List Int) → Int → Option (List Int)
  | 0, _, _ => none
  | fu1 + 1, out2, p =>
    if p < (out2.length : Int) then
    (ix out2 p fun _x =>
    bv (out2.set (p : Int).toNat (-1)) fun out3 =>
    gd (R64 (p + 1)) <|
    oyezref01_Needs_l1 fu1 out3 (p + 1))
    else
    (some out2)
def oyezref01_Needs_l4 (wide : Int) (plots : List Int) (wind : Int) (p2 : Int) : Nat → (List Int) → Bool → Int → Option ((List Int) × Bool)
  | 0, _, _, _ => none
  | fu4 + 1, out9, changed4, q =>
    if q < (out9.length : Int) then
    (b1 (oyezref01_Step wide plots wind p2 q) fun n2 =>
    b1 (if 0 < n2 then
    (ix out9 p2 fun x3 =>
    if 0 ≤ x3 then
    (ix out9 q fun x4 =>
    if x4 < 0 then
    (some true)
    else
    (gd (R64 (x3 + n2)) <|
    some (decide ((x3 + n2) < x4))))
    else
    (some false))
    else
    (some false)) fun k =>
    if k = true then
    (ix out9 p2 fun x5 =>
    gd (R64 (x5 + n2)) <|
    ix out9 q fun _x6 =>
    bv (out9.set (q : Int).toNat (x5 + n2)) fun out10 =>
    gd (R64 (q + 1)) <|
    oyezref01_Needs_l4 wide plots wind p2 fu4 out10 true (q + 1))
    else
    (gd (R64 (q + 1)) <|
    oyezref01_Needs_l4 wide plots wind p2 fu4 out9 changed4 (q + 1)))
    else
    (some (out9, changed4))
def oyezref01_Needs_l3 (wide : Int) (plots : List Int) (wind : Int) (rec2 : (List Int) → Bool → Option (List Int)) : Nat → (List Int) → Bool → Int → Option (List Int)
  | 0, _, _, _ => none
  | fu3 + 1, out7, changed2, p2 =>
    if p2 < (out7.length : Int) then
    (b2 (oyezref01_Needs_l4 wide plots wind p2 FU out7 changed2 0) fun out8 changed3 =>
    gd (R64 (p2 + 1)) <|
    oyezref01_Needs_l3 wide plots wind rec2 fu3 out8 changed3 (p2 + 1))
    else
    (rec2 out7 changed2)
def oyezref01_Needs_l2 (wide : Int) (plots : List Int) (wind : Int) : Nat → (List Int) → Bool → Option (List Int)
  | 0, _, _ => none
  | fu2 + 1, out6, changed =>
    if changed = true then
    (oyezref01_Needs_l3 wide plots wind (oyezref01_Needs_l2 wide plots wind fu2) FU out6 false 0)
    else
    (some out6)
def oyezref01_Needs (wide : Int) (plots : List Int) (wind : Int) (stand : Int) : Option ((List Int) × Int) :=
    b1 (oyezref01_Stand wide plots wind stand) fun n =>
    if n ≠ 0 then
    (some ([], n))
    else
    (gd (0 ≤ (plots.length : Int) ∧ (plots.length : Int) ≤ 1048576) <|
    bv (List.replicate ((plots.length : Int) : Int).toNat 0 : List Int) fun l =>
    b1 (oyezref01_Needs_l1 FU l 0) fun out =>
    ix out stand fun _x2 =>
    bv (out.set (stand : Int).toNat 0) fun out4 =>
    b1 (oyezref01_Needs_l2 wide plots wind FU out4 true) fun out5 =>
    some (out5, 0))
def oyezref01_Ears_l2 (plots : List Int) (voice : Int) (s_ : Int) : List Int → Int → (List (List Int)) → Option (List (List Int))
  | [], _p, out4 =>
    some out4
  | x2 :: tl4, p, out4 =>
    b1 (ix plots p fun x3 =>
    if x3 = 1 then
    (if 0 ≤ x2 then
    (some (decide (x2 ≤ voice)))
    else
    (some false))
    else
    (some false)) fun k =>
    if k = true then
    (ix out4 p fun x4 =>
    ap x4 [s_] fun l3 =>
    bv (out4.set (p : Int).toNat l3) fun out5 =>
    oyezref01_Ears_l2 plots voice s_ tl4 (p + 1) out5)
    else
    (oyezref01_Ears_l2 plots voice s_ tl4 (p + 1) out4)
def oyezref01_Ears_l1 (wide : Int) (plots : List Int) (wind : Int) (voice : Int) : List Int → Int → (List (List Int)) → Option (List (List Int))
  | [], _s_, out2 =>
    some out2
  | x :: tl2, s_, out2 =>
    b1 (if x ≠ 0 then
    (some out2)
    else
    (b2 (oyezref01_Needs wide plots wind s_) fun l2 _n =>
    oyezref01_Ears_l2 plots voice s_ l2 0 out2)) fun out3 =>
    oyezref01_Ears_l1 wide plots wind voice tl2 (s_ + 1) out3
def oyezref01_Ears (wide : Int) (plots : List Int) (wind : Int) (voice : Int) : Option (List (List Int)) :=
    gd (0 ≤ (plots.length : Int) ∧ (plots.length : Int) ≤ 1048576) <|
    bv (List.replicate ((plots.length : Int) : Int).toNat [] : List (List Int)) fun l =>
    b1 (oyezref01_Ears_l1 wide plots wind voice plots 0 l) fun out =>
    some out
def oyezref01_deaf_j1 : Option Bool :=
    some false
def oyezref01_deaf_l2 (ears : List (List Int)) : List Int → Option Bool
  | [] =>
    oyezref01_deaf_j1
  | x :: tl2 =>
    ix ears x fun x2 =>
    if (x2.length : Int) = 0 then
    (some true)
    else
    (oyezref01_deaf_l2 ears tl2)
def oyezref01_deaf (ears : List (List Int)) (houses : List Int) : Option Bool :=
    oyezref01_deaf_l2 ears houses
def oyezref01_ListsB_l2 (x : Int) : List (List Int) → (List (List Int)) → Option (List (List Int))
  | [], out4 =>
    some out4
  | x2 :: tl4, out4 =>
    ap [x] x2 fun l2 =>
    ap out4 [l2] fun l3 =>
    oyezref01_ListsB_l2 x tl4 l3
def oyezref01_ListsB_l1 (of_ : List Int) (many : Int) (rec_ : (List Int) → Int → Option ((List (List Int)))) : List Int → Int → (List (List Int)) → Option (List (List Int))
  | [], _i, out2 =>
    some out2
  | x :: tl2, i, out2 =>
    b1 (gd ((0 ≤ (i + 1) ∧ (i + 1) ≤ (of_.length : Int)) ∧ (of_.length : Int) ≤ of_.length) <|
    bv (sl of_ (i + 1) (of_.length : Int)) fun of_2 =>
    gd (R64 (many - 1)) <|
    b1 (rec_ of_2 (many - 1)) fun l =>
    oyezref01_ListsB_l2 x l out2) fun out3 =>
    oyezref01_ListsB_l1 of_ many rec_ tl2 (i + 1) out3
def oyezref01_ListsB (rec_ : (List Int) → Int → Option ((List (List Int)))) (of_ : List Int) (many : Int) : Option (List (List Int)) :=
    if many = 0 then
    (some [[]])
    else
    (b1 (oyezref01_ListsB_l1 of_ many rec_ of_ 0 []) fun out =>
    some out)
def oyezref01_Lists : Nat → (List Int) → Int → Option (List (List Int))
  | 0, _, _ => none
  | fu + 1, of_, many =>
    oyezref01_ListsB (oyezref01_Lists fu) of_ many
def oyezref01_streets_l1 : List Int → Int → (List Int) → Option (List Int)
  | [], _p, out2 =>
    some out2
  | x :: tl2, p, out2 =>
    if x = 0 then
    (ap out2 [p] fun out3 =>
    oyezref01_streets_l1 tl2 (p + 1) out3)
    else
    (oyezref01_streets_l1 tl2 (p + 1) out2)
def oyezref01_streets (_wide : Int) (plots : List Int) : Option (List Int) :=
    b1 (oyezref01_streets_l1 plots 0 []) fun out =>
    some out
def oyezref01_served_l2 (ears : List (List Int)) (x : Int) : List Int → Bool → Option Bool
  | [], is_2 =>
    some is_2
  | x2 :: tl4, is_2 =>
    if is_2 = true then
    (oyezref01_served_l2 ears x tl4 true)
    else
    (ix ears x fun x3 =>
    b1 (oyezref01_has x3 x2) fun ok =>
    oyezref01_served_l2 ears x tl4 ok)
def oyezref01_served_l1 (ears : List (List Int)) (stands : List Int) : List Int → Int → Option Int
  | [], n2 =>
    some n2
  | x :: tl2, n2 =>
    b1 (b1 (oyezref01_served_l2 ears x stands false) fun is_ =>
    if is_ = true then
    (gd (R64 (n2 + 1)) <|
    some (n2 + 1))
    else
    (some n2)) fun n3 =>
    oyezref01_served_l1 ears stands tl2 n3
def oyezref01_served (ears : List (List Int)) (houses : List Int) (stands : List Int) : Option Int :=
    b1 (oyezref01_served_l1 ears stands houses 0) fun n =>
    some n
def oyezref01_Fewest_j2 (many : Int) (rec1 : Int → Option ((List Int) × Int)) : Option ((List Int) × Int) :=
    gd (R64 (many + 1)) <|
    rec1 (many + 1)
def oyezref01_Fewest_l3 (houses : List Int) (l : List (List Int)) (many : Int) (rec1 : Int → Option ((List Int) × Int)) : List (List Int) → Option ((List Int) × Int)
  | [] =>
    oyezref01_Fewest_j2 many rec1
  | x :: tl2 =>
    b1 (oyezref01_served l houses x) fun n2 =>
    if n2 = (houses.length : Int) then
    (some (x, 0))
    else
    (oyezref01_Fewest_l3 houses l many rec1 tl2)
def oyezref01_Fewest_l1 (wide : Int) (plots : List Int) (houses : List Int) (l : List (List Int)) : Nat → Int → Option ((List Int) × Int)
  | 0, _ => none
  | fu1 + 1, many =>
    b1 (oyezref01_streets wide plots) fun l2 =>
    b1 (oyezref01_Lists FU l2 many) fun l3 =>
    oyezref01_Fewest_l3 houses l many (oyezref01_Fewest_l1 wide plots houses l fu1) l3
def oyezref01_Fewest (wide : Int) (plots : List Int) (wind : Int) (voice : Int) (houses : List Int) : Option ((List Int) × Int) :=
    b1 (oyezref01_Asked wide plots wind voice houses) fun n =>
    if n ≠ 0 then
    (some ([], n))
    else
    (b1 (oyezref01_Ears wide plots wind voice) fun l =>
    b1 (oyezref01_deaf l houses) fun ok =>
    if ok = true then
    (some ([], 6))
    else
    (oyezref01_Fewest_l1 wide plots houses l FU 0))
def hear_ears_list_l1 (x : List Bool) : Nat → Int → (List Int) → Option (List Int)
  | 0, _k, out2 =>
    some out2
  | fu1 + 1, k, out2 =>
    ix x k fun x2 =>
    if x2 = true then
    (ap out2 [k] fun out3 =>
    hear_ears_list_l1 x fu1 (k + 1) out3)
    else
    (hear_ears_list_l1 x fu1 (k + 1) out2)
def hear_ears_list (x : List Bool) : Option (List Int) :=
    b1 (gd (R64 0 ∧ R64 30) <|
    hear_ears_list_l1 x (Int.toNat (30 - 0)) 0 []) fun out =>
    some out
def cmp_isNaN_int (x : Int) : Option Bool :=
    some (decide (x ≠ x))
def cmp_Less_int (x : Int) (y : Int) : Option Bool :=
    b1 (cmp_isNaN_int x) fun ok =>
    if ok = true then
    (b1 (cmp_isNaN_int y) fun ok2 =>
    if (!ok2) = true then
    (some true)
    else
    (some (decide (x < y))))
    else
    (some (decide (x < y)))
def slices_insertionSortOrdered_int_l2 (a : Int) : Nat → (List Int) → Int → Option (List Int)
  | 0, _, _ => none
  | fu2 + 1, data3, j =>
    b1 (if a < j then
    (ix data3 j fun x =>
    gd (R64 (j - 1)) <|
    ix data3 (j - 1) fun x2 =>
    b1 (cmp_Less_int x x2) fun ok =>
    some ok)
    else
    (some false)) fun k =>
    if k = true then
    (gd (R64 (j - 1)) <|
    gd (R64 (j - 1)) <|
    ix data3 (j - 1) fun x3 =>
    ix data3 j fun x4 =>
    bv (data3.set (j : Int).toNat x3) fun l =>
    ix l (j - 1) fun _x5 =>
    bv (l.set (j - 1 : Int).toNat x4) fun l2 =>
    gd (R64 (j - 1)) <|
    slices_insertionSortOrdered_int_l2 a fu2 l2 (j - 1))
    else
    (some data3)
def slices_insertionSortOrdered_int_l1 (a : Int) : Nat → Int → (List Int) → Option (List Int)
  | 0, _i, data =>
    some data
  | fu1 + 1, i, data =>
    b1 (slices_insertionSortOrdered_int_l2 a FU data i) fun data2 =>
    slices_insertionSortOrdered_int_l1 a fu1 (i + 1) data2
def slices_insertionSortOrdered_int (s_ : List Int) (a : Int) (b : Int) : Option (List Int) :=
    gd (R64 (a + 1)) <|
    gd (R64 (a + 1) ∧ R64 b) <|
    slices_insertionSortOrdered_int_l1 a (Int.toNat (b - (a + 1))) (a + 1) s_
def math_bits_Len64 (x : Int) : Option Int :=
    b2 (if 4294967296 ≤ x then
    (some (shr x 32, 32))
    else
    (some (x, 0))) fun x2 n =>
    b2 (if 65536 ≤ x2 then
    (gd (R64 (n + 16)) <|
    some (shr x2 16, n + 16))
    else
    (some (x2, n))) fun x3 n2 =>
    b2 (if 256 ≤ x3 then
    (gd (R64 (n2 + 8)) <|
    some (shr x3 8, n2 + 8))
    else
    (some (x3, n2))) fun x4 n3 =>
    ix strt_0 (x4 % 256) fun x5 =>
    gd (R64 x5) <|
    gd (R64 (n3 + x5)) <|
    some (n3 + x5)
def math_bits_Len (x : Int) : Option Int :=
    b1 (math_bits_Len64 x) fun n =>
    some n
def slices_pdqsortOrdered_intB_l1 (s_ : List Int) (a : Int) (b : Int) : Nat → Option (List Int)
  | 0 => none
  | _fu1 + 1 =>
    gd (R64 (b - a)) <|
    gd ((b - a) ≤ 12) <|
    b1 (slices_insertionSortOrdered_int s_ a b) fun s_2 =>
    some s_2
def slices_pdqsortOrdered_intB (_rec_ : (List Int) → Int → Int → Int → Option ((List Int))) (s_ : List Int) (a : Int) (b : Int) (_limit : Int) : Option (List Int) :=
    slices_pdqsortOrdered_intB_l1 s_ a b FU
def slices_pdqsortOrdered_int : Nat → (List Int) → Int → Int → Int → Option (List Int)
  | 0, _, _, _, _ => none
  | fu + 1, s_, a, b, limit =>
    slices_pdqsortOrdered_intB (slices_pdqsortOrdered_int fu) s_ a b limit
def slices_Sort_int_int (s_ : List Int) : Option (List Int) :=
    b1 (math_bits_Len ((s_.length : Int) % 18446744073709551616)) fun n =>
    b1 (slices_pdqsortOrdered_int FU s_ 0 (s_.length : Int) n) fun s_2 =>
    some s_2
def slices_Compact_int_int_l4 (k : Int) : Nat → (List Int) → Int → Int → Option ((List Int) × Int)
  | 0, _, _, _ => none
  | fu4 + 1, s_3, k3, k2_2 =>
    if k2_2 < ((s_3.length - Int.toNat k : Nat) : Int) then
    (ix (s_3.drop (Int.toNat k)) k2_2 fun x3 =>
    gd (R64 (k2_2 - 1)) <|
    ix (s_3.drop (Int.toNat k)) (k2_2 - 1) fun x4 =>
    if x3 ≠ x4 then
    (ix s_3 k3 fun _x5 =>
    bv (s_3.set (k3 : Int).toNat x3) fun s_4 =>
    gd (R64 (k3 + 1)) <|
    gd (R64 (k2_2 + 1)) <|
    slices_Compact_int_int_l4 k fu4 s_4 (k3 + 1) (k2_2 + 1))
    else
    (gd (R64 (k2_2 + 1)) <|
    slices_Compact_int_int_l4 k fu4 s_3 k3 (k2_2 + 1)))
    else
    (some (s_3, k3))
def slices_Compact_int_int_j3 (k : Int) (rec2 : Int → Option (List Int)) : Option (List Int) :=
    rec2 (k + 1)
def slices_Compact_int_int_j1 (s_ : List Int) : Option (List Int) :=
    some s_
def slices_Compact_int_int_l2 (s_ : List Int) : Nat → Int → Option (List Int)
  | 0, _k =>
    slices_Compact_int_int_j1 s_
  | fu2 + 1, k =>
    ix s_ k fun x =>
    gd (R64 (k - 1)) <|
    ix s_ (k - 1) fun x2 =>
    if x = x2 then
    (gd (0 ≤ k ∧ k ≤ (s_.length : Int)) <|
    b2 (slices_Compact_int_int_l4 k FU s_ k 1) fun s_2 k2 =>
    gd (0 ≤ k2 ∧ k2 ≤ (s_2.length : Int)) <|
    bv (s_2.take (Int.toNat k2) ++ List.replicate (s_2.length - Int.toNat k2) 0 : List Int) fun s_5 =>
    gd ((0 ≤ (0 : Int) ∧ (0 : Int) ≤ k2) ∧ k2 ≤ s_5.length) <|
    bv (sl s_5 0 k2) fun s_6 =>
    some s_6)
    else
    slices_Compact_int_int_j3 k (slices_Compact_int_int_l2 s_ fu2)
def slices_Compact_int_int (s_ : List Int) : Option (List Int) :=
    if (s_.length : Int) < 2 then
    (some s_)
    else
    (gd (R64 1 ∧ R64 (s_.length : Int)) <|
    slices_Compact_int_int_l2 s_ (Int.toNat ((s_.length : Int) - 1)) 1)
def hear_Must_l1 : List (List Bool) → (List Int) → Option (List Int)
  | [], out2 =>
    some out2
  | x :: tl2, out2 =>
    b1 (hear_ears_list x) fun l2 =>
    if (l2.length : Int) = 1 then
    (ix l2 0 fun x2 =>
    ap out2 [x2] fun out3 =>
    hear_Must_l1 tl2 out3)
    else
    (hear_Must_l1 tl2 out2)
def hear_Must (wide : Int) (plots : List Int) (wind : Int) (voice : Int) (houses : List Int) : Option ((List Int) × Int) :=
    b3 (hear_asked wide plots wind voice houses) fun l y n =>
    if n ≠ 0 then
    (some ([], n))
    else
    (gd (y = true) <|
    b1 (hear_quarter_deaf l (fun xx_ : Int => hear_ones xx_)) fun ok =>
    if ok = true then
    (some ([], 6))
    else
    (b1 (hear_Must_l1 l []) fun out =>
    b1 (slices_Sort_int_int out) fun s_ =>
    b1 (slices_Compact_int_int s_) fun l3 =>
    some (l3, 0)))
def oyezref01_Must_l1 (houses : List Int) (l : List (List Int)) (l2 : List Int) : List Int → Int → (List Int) → Option (List Int)
  | [], _i, out2 =>
    some out2
  | x :: tl2, i, out2 =>
    gd ((0 ≤ (0 : Int) ∧ (0 : Int) ≤ i) ∧ i ≤ l2.length) <|
    bv (sl l2 0 i) fun l2_2 =>
    gd ((0 ≤ (i + 1) ∧ (i + 1) ≤ (l2.length : Int)) ∧ (l2.length : Int) ≤ l2.length) <|
    bv (sl l2 (i + 1) (l2.length : Int)) fun l2_3 =>
    ap ([] : List Int) l2_2 fun l3 =>
    ap l3 l2_3 fun l4 =>
    b1 (oyezref01_served l houses l4) fun n2 =>
    if n2 < (houses.length : Int) then
    (ap out2 [x] fun out3 =>
    oyezref01_Must_l1 houses l l2 tl2 (i + 1) out3)
    else
    (oyezref01_Must_l1 houses l l2 tl2 (i + 1) out2)
def oyezref01_Must (wide : Int) (plots : List Int) (wind : Int) (voice : Int) (houses : List Int) : Option ((List Int) × Int) :=
    b1 (oyezref01_Asked wide plots wind voice houses) fun n =>
    if n ≠ 0 then
    (some ([], n))
    else
    (b1 (oyezref01_Ears wide plots wind voice) fun l =>
    b1 (oyezref01_deaf l houses) fun ok =>
    if ok = true then
    (some ([], 6))
    else
    (b1 (oyezref01_streets wide plots) fun l2 =>
    b1 (oyezref01_Must_l1 houses l l2 l2 0 []) fun out =>
    some (out, 0)))
def slices_AppendSeq_int_int_l1 : List Int → (List Int) → Option (List Int)
  | [], s_3 =>
    some s_3
  | x :: tl2, s_3 =>
    ap s_3 [x] fun s_4 =>
    slices_AppendSeq_int_int_l1 tl2 s_4
def slices_AppendSeq_int_int (s_ : List Int) (seq : List Int) : Option (List Int) :=
    b1 (slices_AppendSeq_int_int_l1 seq s_) fun s_2 =>
    some s_2
def slices_Collect_int (seq : List Int) : Option (List Int) :=
    b1 (slices_AppendSeq_int_int [] seq) fun l =>
    some l
def slices_Sorted_int (seq : List Int) : Option (List Int) :=
    b1 (slices_Collect_int seq) fun l =>
    b1 (slices_Sort_int_int l) fun s_ =>
    some s_
def slices_Values_int_int_1_l1 : List Int → Option (List Int)
  | [] =>
    some []
  | x :: tl2 =>
    yl x <|
    slices_Values_int_int_1_l1 tl2
def slices_Values_int_int_1 (s_ : List Int) : Option (List Int) :=
    slices_Values_int_int_1_l1 s_
def slices_Values_int_int (s_ : List Int) : Option (List Int) :=
    b1 (slices_Values_int_int_1 s_) fun l =>
    some l
def slices_Clone_int_int (s_ : List Int) : Option (List Int) :=
    nilIf (s_ = []) (some []) (ap ([] : List Int) s_ fun l =>
    some l)
def slices_IndexFunc_int_int_j1 : Option Int :=
    some (-1)
def slices_IndexFunc_int_int_l2 (f : Int → Option Bool) : List Int → Int → Option Int
  | [], _k =>
    slices_IndexFunc_int_int_j1
  | x :: tl2, k =>
    b1 (f x) fun ok =>
    if ok = true then
    (some k)
    else
    (slices_IndexFunc_int_int_l2 f tl2 (k + 1))
def slices_IndexFunc_int_int (s_ : List Int) (f : Int → Option Bool) : Option Int :=
    slices_IndexFunc_int_int_l2 f s_ 0
def slices_ContainsFunc_int_int (s_ : List Int) (f : Int → Option Bool) : Option Bool :=
    b1 (slices_IndexFunc_int_int s_ f) fun n =>
    some (decide (0 ≤ n))
def hear_every_int_1 (x : Int) (so : Int → Option Bool) : Option Bool :=
    b1 (so x) fun ok =>
    some (!ok)
def hear_every_int (l : List Int) (so : Int → Option Bool) : Option Bool :=
    b1 (slices_ContainsFunc_int_int l (fun xx_ : Int => hear_every_int_1 xx_ so)) fun ok =>
    some (!ok)
def hear_ears_common_j1 : Option Bool :=
    some false
def hear_ears_common_l2 (x : List Bool) (y : List Bool) : Nat → Int → Option Bool
  | 0, _k =>
    hear_ears_common_j1
  | fu2 + 1, k =>
    b1 (ix x k fun x2 =>
    if x2 = true then
    (ix y k fun x3 =>
    some x3)
    else
    (some false)) fun k2 =>
    if k2 = true then
    (some true)
    else
    (hear_ears_common_l2 x y fu2 (k + 1))
def hear_ears_common (x : List Bool) (y : List Bool) : Option Bool :=
    gd (R64 0 ∧ R64 30) <|
    hear_ears_common_l2 x y (Int.toNat (30 - 0)) 0
def hear_Apart_1_1 (k : Int) (ears : List (List Bool)) (_count : Int → Option Int) (i : Int) : Option Bool :=
    ix ears k fun x =>
    ix ears i fun x2 =>
    b1 (hear_ears_common x x2) fun ok =>
    some (!ok)
def hear_Apart_1B_l1 (l : List Int) (own : List Int) (ears : List (List Bool)) (count : Int → Option Int) (rec_ : (List Int) → Int → (List Int) → (List Int) → (List (List Bool)) → (Int → Option Int) → Option ((List Int))) : Nat → (List Int) → Int → Option (List Int)
  | 0, _, _ => none
  | fu1 + 1, out3, i =>
    if i < (own.length : Int) then
    (b1 (b1 (hear_every_int l (fun xx_ : Int => hear_Apart_1_1 xx_ ears count i)) fun ok =>
    if ok = true then
    (gd (R64 (i + 1)) <|
    b1 (slices_Clone_int_int l) fun l3 =>
    ap l3 [i] fun l4 =>
    b1 (rec_ l4 (i + 1) out3 own ears count) fun out5 =>
    some out5)
    else
    (some out3)) fun out4 =>
    gd (R64 (i + 1)) <|
    hear_Apart_1B_l1 l own ears count rec_ fu1 out4 (i + 1))
    else
    (some out3)
def hear_Apart_1B (rec_ : (List Int) → Int → (List Int) → (List Int) → (List (List Bool)) → (Int → Option Int) → Option ((List Int))) (l : List Int) (from_ : Int) (out : List Int) (own : List Int) (ears : List (List Bool)) (count : Int → Option Int) : Option (List Int) :=
    b1 (if (out.length : Int) < (l.length : Int) then
    (b1 (slices_Clone_int_int l) fun l2 =>
    some l2)
    else
    (some out)) fun out2 =>
    hear_Apart_1B_l1 l own ears count rec_ FU out2 from_
def hear_Apart_1 : Nat → (List Int) → Int → (List Int) → (List Int) → (List (List Bool)) → (Int → Option Int) → Option (List Int)
  | 0, _, _, _, _, _, _ => none
  | fu + 1, l, from_, out, own, ears, count =>
    hear_Apart_1B (hear_Apart_1 fu) l from_ out own ears count
def hear_Apart_l1 (l : List Int) : Nat → Int → (List Int) → Option (List Int)
  | 0, _k, out3 =>
    some out3
  | fu1 + 1, k, out3 =>
    ix out3 k fun x =>
    ix l x fun x2 =>
    bv (out3.set (k : Int).toNat x2) fun l4 =>
    hear_Apart_l1 l fu1 (k + 1) l4
def hear_Apart (wide : Int) (plots : List Int) (wind : Int) (voice : Int) (houses : List Int) : Option ((List Int) × Int) :=
    b1 (slices_Values_int_int houses) fun y =>
    b1 (slices_Sorted_int y) fun l =>
    b3 (hear_asked wide plots wind voice houses) fun _l2 _y2 n =>
    if n ≠ 0 then
    (some ([], n))
    else
    (b3 (hear_asked wide plots wind voice l) fun l3 y3 _n2 =>
    gd (y3 = true) <|
    b1 (hear_Apart_1 FU [] 0 [] l l3 (fun xx_ : Int => hear_ones xx_)) fun out =>
    b1 (gd (R64 0 ∧ R64 (out.length : Int)) <|
    hear_Apart_l1 l (Int.toNat ((out.length : Int) - 0)) 0 out) fun out2 =>
    some (out2, 0))
def oyezref01_apart_j5 (k : Int) (rec4 : Int → Option Bool) : Option Bool :=
    rec4 (k + 1)
def oyezref01_apart_l6 (ears : List (List Int)) (l : List Int) (x : Int) (k : Int) (rec4 : Int → Option Bool) : Nat → Int → Option Bool
  | 0, _ => none
  | fu6 + 1, s_ =>
    ix ears x fun x2 =>
    if s_ < (x2.length : Int) then
    (ix l k fun x3 =>
    ix ears x3 fun x4 =>
    ix x2 s_ fun x5 =>
    b1 (oyezref01_has x4 x5) fun ok =>
    if ok = true then
    (some false)
    else
    (gd (R64 (s_ + 1)) <|
    oyezref01_apart_l6 ears l x k rec4 fu6 (s_ + 1)))
    else
    oyezref01_apart_j5 k rec4
def oyezref01_apart_j3 (i : Int) (rec2 : Int → Option Bool) : Option Bool :=
    rec2 (i + 1)
def oyezref01_apart_l4 (ears : List (List Int)) (l : List Int) (i : Int) (x : Int) (rec2 : Int → Option Bool) : Nat → Int → Option Bool
  | 0, _k =>
    oyezref01_apart_j3 i rec2
  | fu4 + 1, k =>
    oyezref01_apart_l6 ears l x k (oyezref01_apart_l4 ears l i x rec2 fu4) FU 0
def oyezref01_apart_j1 : Option Bool :=
    some true
def oyezref01_apart_l2 (ears : List (List Int)) (l : List Int) : List Int → Int → Option Bool
  | [], _i =>
    oyezref01_apart_j1
  | x :: tl2, i =>
    gd (R64 0 ∧ R64 i) <|
    oyezref01_apart_l4 ears l i x (oyezref01_apart_l2 ears l tl2) (Int.toNat (i - 0)) 0
def oyezref01_apart (ears : List (List Int)) (l : List Int) : Option Bool :=
    oyezref01_apart_l2 ears l l 0
def oyezref01_Apart_l1 (houses : List Int) : List Int → Int → (List Int) → Option (List Int)
  | [], _p, sorted2 =>
    some sorted2
  | _x :: tl2, p, sorted2 =>
    b1 (oyezref01_has houses p) fun ok =>
    if ok = true then
    (ap sorted2 [p] fun sorted3 =>
    oyezref01_Apart_l1 houses tl2 (p + 1) sorted3)
    else
    (oyezref01_Apart_l1 houses tl2 (p + 1) sorted2)
def oyezref01_Apart_j4 (many : Int) (rec3 : Int → Option ((List Int) × Int)) : Option ((List Int) × Int) :=
    gd (R64 (many - 1)) <|
    rec3 (many - 1)
def oyezref01_Apart_l5 (l : List (List Int)) (many : Int) (rec3 : Int → Option ((List Int) × Int)) : List (List Int) → Option ((List Int) × Int)
  | [] =>
    oyezref01_Apart_j4 many rec3
  | x2 :: tl4 =>
    b1 (oyezref01_apart l x2) fun ok2 =>
    if ok2 = true then
    (some (x2, 0))
    else
    (oyezref01_Apart_l5 l many rec3 tl4)
def oyezref01_Apart_j2 : Option ((List Int) × Int) :=
    some ([], 0)
def oyezref01_Apart_l3 (l : List (List Int)) (sorted : List Int) : Nat → Int → Option ((List Int) × Int)
  | 0, _ => none
  | fu3 + 1, many =>
    if 0 < many then
    (b1 (oyezref01_Lists FU sorted many) fun l2 =>
    oyezref01_Apart_l5 l many (oyezref01_Apart_l3 l sorted fu3) l2)
    else
    oyezref01_Apart_j2
def oyezref01_Apart (wide : Int) (plots : List Int) (wind : Int) (voice : Int) (houses : List Int) : Option ((List Int) × Int) :=
    b1 (oyezref01_Asked wide plots wind voice houses) fun n =>
    if n ≠ 0 then
    (some ([], n))
    else
    (b1 (oyezref01_Ears wide plots wind voice) fun l =>
    b1 (oyezref01_Apart_l1 houses plots 0 []) fun sorted =>
    oyezref01_Apart_l3 l sorted FU (sorted.length : Int))
def slices_Equal_hear_Plot_hear_Plot_j1 : Option Bool :=
    some true
def slices_Equal_hear_Plot_hear_Plot_l2 (s2 : List Int) : List Int → Int → Option Bool
  | [], _k =>
    slices_Equal_hear_Plot_hear_Plot_j1
  | x :: tl2, k =>
    ix s2 k fun x2 =>
    if x ≠ x2 then
    (some false)
    else
    (slices_Equal_hear_Plot_hear_Plot_l2 s2 tl2 (k + 1))
def slices_Equal_hear_Plot_hear_Plot (s1 : List Int) (s2 : List Int) : Option Bool :=
    if (s1.length : Int) ≠ (s2.length : Int) then
    (some false)
    else
    (slices_Equal_hear_Plot_hear_Plot_l2 s2 s1 0)
def oyezkit_Like_Plot (a : List Int) (b : List Int) : Option Bool :=
    b1 (slices_Equal_hear_Plot_hear_Plot a b) fun ok =>
    some ok
def oyezlaw01_same (wide : Int) (plots : List Int) (wide2 : Int) (plots2 : List Int) : Option Bool :=
    if wide = wide2 then
    (b1 (oyezkit_Like_Plot plots plots2) fun ok =>
    some ok)
    else
    (some false)
def oyezlaw01_HearFewest (wide : Int) (plots : List Int) (wind : Int) (voice : Int) (houses : List Int) : Option Bool :=
    b1 (b1 (oyezlaw01_many wide plots 11) fun ok =>
    if ok = true then
    (some true)
    else
    (some (decide (12 < (houses.length : Int))))) fun k =>
    if k = true then
    (b1 (oyezlaw01_awake) fun ok2 =>
    some ok2)
    else
    (b2 (oyezlaw01_Own wide plots) fun n l =>
    b1 (oyezkit_Copy_int houses) fun l2 =>
    b2 (oyezlaw01_theirs wide plots) fun n2 l3 =>
    b2 (hear_Fewest n l wind voice l2) fun l4 n3 =>
    b2 (oyezref01_Fewest n2 l3 wind voice houses) fun l5 n4 =>
    b1 (if n3 ≠ n4 then
    (some true)
    else
    (b1 (oyezkit_Like_int l4 l5) fun ok3 =>
    some (!ok3))) fun k2 =>
    if k2 = true then
    (some false)
    else
    (b2 (hear_Must n l wind voice l2) fun l6 n5 =>
    b2 (oyezref01_Must n2 l3 wind voice houses) fun l7 n6 =>
    b1 (if n5 ≠ n6 then
    (some true)
    else
    (b1 (oyezkit_Like_int l6 l7) fun ok4 =>
    some (!ok4))) fun k3 =>
    if k3 = true then
    (some false)
    else
    (b2 (hear_Apart n l wind voice l2) fun l8 n7 =>
    b2 (oyezref01_Apart n2 l3 wind voice houses) fun l9 n8 =>
    if n7 = n8 then
    (b1 (oyezkit_Like_int l8 l9) fun ok5 =>
    if ok5 = true then
    (b1 (oyezlaw01_same n l wide plots) fun ok6 =>
    if ok6 = true then
    (b1 (oyezkit_Like_int l2 houses) fun ok7 =>
    if ok7 = true then
    (b1 (oyezlaw01_awake) fun ok8 =>
    some ok8)
    else
    (some false))
    else
    (some false))
    else
    (some false))
    else
    (some false))))
end Go.Proofs.YtejkgppikpkkpaaGreat
