/- Plain functions that mirror the code, printed by a program of mine. -/
import Derived.Test.YtfmapnhfamoecaaGreatZLPl
namespace Go.Proofs.YtfmapnhfamoecaaGreat
open Go.PL
abbrev DW := List (List Int)
abbrev Is := List (Int × Int × Int)
abbrev IJ := List (List (List Int))
abbrev PT := List ((List Int) × Int × Int)
def Uj : List Int := [0, 1, 2, 2, 3, 3, 3, 3, 4, 4, 4, 4, 4, 4, 4, 4, 5, 5, 5, 5, 5, 5, 5, 5, 5, 5, 5, 5, 5, 5, 5, 5, 6, 6, 6, 6, 6, 6, 6, 6, 6, 6, 6, 6, 6, 6, 6, 6, 6, 6, 6, 6, 6, 6, 6, 6, 6, 6, 6, 6, 6, 6, 6, 6, 7, 7, 7, 7, 7, 7, 7, 7, 7, 7, 7, 7, 7, 7, 7, 7, 7, 7, 7, 7, 7, 7, 7, 7, 7, 7, 7, 7, 7, 7, 7, 7, 7, 7, 7, 7, 7, 7, 7, 7, 7, 7, 7, 7, 7, 7, 7, 7, 7, 7, 7, 7, 7, 7, 7, 7, 7, 7, 7, 7, 7, 7, 7, 7, 8, 8, 8, 8, 8, 8, 8, 8, 8, 8, 8, 8, 8, 8, 8, 8, 8, 8, 8, 8, 8, 8, 8, 8, 8, 8, 8, 8, 8, 8, 8, 8, 8, 8, 8, 8, 8, 8, 8, 8, 8, 8, 8, 8, 8, 8, 8, 8, 8, 8, 8, 8, 8, 8, 8, 8, 8, 8, 8, 8, 8, 8, 8, 8, 8, 8, 8, 8, 8, 8, 8, 8, 8, 8, 8, 8, 8, 8, 8, 8, 8, 8, 8, 8, 8, 8, 8, 8, 8, 8, 8, 8, 8, 8, 8, 8, 8, 8, 8, 8, 8, 8, 8, 8, 8, 8, 8, 8, 8, 8, 8, 8, 8, 8, 8, 8, 8, 8, 8, 8, 8, 8, 8, 8, 8, 8, 8, 8]
def Ku (metal : List Int) : Option ((List Int) × Int × Int) :=
  some (metal, 0, 0)
def GN : Option Int :=
  some (-1)
def CM (v : Int) : List Int → Int → Option Int
  | [], _k =>
  GN
  | x :: aa, k =>
  if v = x then
  (some k)
  else
  (CM v aa (k + 1))
def Gr (s_ : List Int) (v : Int) : Option Int :=
  CM v s_ 0
def Bu (s_ : List Int) (v : Int) : Option Bool :=
  b1 (Gr s_ v) fun n =>
  some (decide (0 ≤ n))
def IG (n lo hi : Int) : Option Bool :=
  if lo ≤ n then
  (some (decide (n ≤ hi)))
  else
  (some false)
def Fw : Option Int :=
  some (-1)
def Ch (f : (List Int) → Option Bool) : DW → Int → Option Int
  | [], _k =>
  Fw
  | x :: aa, k =>
  b1 (f x) fun ok =>
  if ok = true then
  (some k)
  else
  (Ch f aa (k + 1))
def EO (s_ : DW) (f : (List Int) → Option Bool) : Option Int :=
  Ch f s_ 0
def CG (s_ : DW) (f : (List Int) → Option Bool) : Option Bool :=
  b1 (EO s_ f) fun n =>
  some (decide (0 ≤ n))
def HW (x : List Int) (so : (List Int) → Option Bool) : Option Bool :=
  b1 (so x) fun ok =>
  some (!ok)
def Kj (l : DW) (so : (List Int) → Option Bool) : Option Bool :=
  b1 (CG l (fun aa : (List Int) => HW aa so)) fun ok =>
  some (!ok)
def Gj (l : List Int) (n : Int) : Option Bool :=
  some (decide ((l.length : Int) = n))
def I6 (walks Al : DW) (Ad _start : Int) (Ab : PT) : Option Bool :=
  b1 (IG (Al.length : Int) 1 5) fun ok =>
  if ok = true then
  (b1 (IG Ad 1 5) fun aa =>
  if aa = true then
  (if (Ab.length : Int) ≤ 3 then
  (if (walks.length : Int) = (Al.length : Int) then
  (b1 (Kj walks (fun ab : (List Int) => Gj ab (Al.length : Int))) fun ad =>
  some ad)
  else
  (some false))
  else
  (some false))
  else
  (some false))
  else
  (some false)
def JN (_walks Al : DW) (_Ad _start : Int) (_Ab : PT) (s_ : Int) : Option Bool :=
  gd (C9 ((Al.length : Int) - 1)) <|
  b1 (IG s_ 0 ((Al.length : Int) - 1)) fun ok =>
  some ok
def G8 (k : Int) (aa : Int → Option Bool) : Option Bool :=
  aa (k + 1)
def Ew (k : Int) (aa : Int → Option Bool) : List Int → Int → Option Bool
  | [], _k2 =>
  G8 k aa
  | x2 :: ab, k2 =>
  b1 (if k = k2 then
  (if x2 ≠ 0 then
  (some true)
  else
  (if k ≠ k2 then
  (if x2 ≠ (-1) then
  (b1 (IG x2 1 20) fun ok =>
  some (!ok))
  else
  (some false))
  else
  (some false)))
  else
  (if k ≠ k2 then
  (if x2 ≠ (-1) then
  (b1 (IG x2 1 20) fun ad =>
  some (!ad))
  else
  (some false))
  else
  (some false))) fun k3 =>
  if k3 = true then
  (some false)
  else
  (Ew k aa ab (k2 + 1))
def Hk : Option Bool :=
  some true
def C7 : DW → Int → Option Bool
  | [], _k =>
  Hk
  | x :: aa, k =>
  Ew k (C7 aa) x 0
def Iw (walks _Al : DW) (_Ad _start : Int) (_Ab : PT) : Option Bool :=
  C7 walks 0
def H5 : Option Int :=
  some 0
def E0 (Ad : Int) (l : List Int) : List Int → Int → Option Int
  | [], _k =>
  H5
  | x :: aa, k =>
  gd (C9 (Ad - 1)) <|
  b1 (IG x 0 (Ad - 1)) fun ok =>
  if (!ok) = true then
  (some 1)
  else
  (gd ((0 ≤ (0 : Int) ∧ (0 : Int) ≤ k) ∧ k ≤ l.length) <|
  bv (sl l 0 k) fun l2 =>
  b1 (Bu l2 x) fun ab =>
  if ab = true then
  (some 5)
  else
  (E0 Ad l aa (k + 1)))
def HU (_walks _Al : DW) (Ad _start : Int) (_Ab : PT) (l : List Int) : Option Int :=
  E0 Ad l l 0
def JQ (walks Al : DW) (Ad start : Int) (Ab : PT) (quarter : List Int) (words hour : Int) : Option Int :=
  if (quarter.length : Int) = 0 then
  (some 6)
  else
  (b1 (HU walks Al Ad start Ab quarter) fun n =>
  if n ≠ 0 then
  (some n)
  else
  (b1 (b1 (IG words 1 5) fun ok =>
  if (!ok) = true then
  (some true)
  else
  (b1 (IG hour 0 200) fun aa =>
  some (!aa))) fun k =>
  if k = true then
  (some 3)
  else
  (some 0)))
def Lm (Cg : Int) : Option Int :=
  if 9 < Cg then
  (some 2)
  else
  (some 0)
def H9 (walks Al : DW) (Ad start : Int) (Ab : PT) : PT → Int → Option Int
  | [], aa =>
  Lm aa
  | x2 :: ab, aa =>
  b1 (JQ walks Al Ad start Ab x2.1 x2.2.1 x2.2.2) fun n2 =>
  if n2 ≠ 0 then
  (some n2)
  else
  (gd (C9 (aa + (x2.1.length : Int))) <|
  H9 walks Al Ad start Ab ab (aa + (x2.1.length : Int)))
def Lk (walks Al : DW) (Ad start : Int) (Ab : PT) : Option Int :=
  H9 walks Al Ad start Ab Ab 0
def H7 (walks Al : DW) (Ad start : Int) (Ab : PT) : DW → Option Int
  | [] =>
  Lk walks Al Ad start Ab
  | x :: aa =>
  b1 (HU walks Al Ad start Ab x) fun n =>
  if n ≠ 0 then
  (some n)
  else
  (H7 walks Al Ad start Ab aa)
def Nt (walks Al : DW) (Ad start : Int) (Ab : PT) : Option Int :=
  b1 (I6 walks Al Ad start Ab) fun ok =>
  if (!ok) = true then
  (some 2)
  else
  (b1 (JN walks Al Ad start Ab start) fun aa =>
  if (!aa) = true then
  (some 1)
  else
  (b1 (Iw walks Al Ad start Ab) fun ab =>
  if (!ab) = true then
  (some 3)
  else
  (H7 walks Al Ad start Ab Al)))
def FA : List Int → Int → Option Int
  | [], BD =>
  some BD
  | x :: aa, BD =>
  b1 (if x ≠ (-1) then
  (if BD = (-1) then
  (some true)
  else
  (some (decide (x < BD))))
  else
  (some false)) fun k2 =>
  if k2 = true then
  (FA aa x)
  else
  (FA aa BD)
def LO (l : List Int) : Option Int :=
  b1 (FA l (-1)) fun out =>
  some out
def DE (w : List Int) (k k2 : Int) : Nat → Int → (List Int) → Option (List Int)
  | 0, _k3, aa =>
  some aa
  | ab + 1, k3, aa =>
  b1 (gd (0 ≤ k ∧ k < 5) <|
  gd (0 ≤ k3 ∧ k3 < 5) <|
  ix w (k * 5 + k3) fun x =>
  if x ≠ (-1) then
  (gd (0 ≤ k3 ∧ k3 < 5) <|
  gd (0 ≤ k2 ∧ k2 < 5) <|
  ix w (k3 * 5 + k2) fun x2 =>
  some (decide (x2 ≠ (-1))))
  else
  (some false)) fun k4 =>
  if k4 = true then
  (gd (0 ≤ k ∧ k < 5) <|
  gd (0 ≤ k2 ∧ k2 < 5) <|
  ix aa (k * 5 + k2) fun x3 =>
  gd (0 ≤ k ∧ k < 5) <|
  gd (0 ≤ k3 ∧ k3 < 5) <|
  ix w (k * 5 + k3) fun x4 =>
  gd (0 ≤ k3 ∧ k3 < 5) <|
  gd (0 ≤ k2 ∧ k2 < 5) <|
  ix w (k3 * 5 + k2) fun x5 =>
  gd (C9 (x4 + x5)) <|
  gd (0 ≤ k ∧ k < 5) <|
  b1 (LO [x3, x4 + x5]) fun n =>
  gd (0 ≤ k2 ∧ k2 < 5) <|
  bv (aa.set (k * 5 + k2 : Int).toNat n) fun l =>
  DE w k k2 ab (k3 + 1) l)
  else
  (DE w k k2 ab (k3 + 1) aa)
def En (w : List Int) (k : Int) : Nat → Int → (List Int) → Option (List Int)
  | 0, _k2, aa =>
  some aa
  | ad + 1, k2, aa =>
  b1 (gd (C9 0 ∧ C9 5) <|
  DE w k k2 (Int.toNat (5 - 0)) 0 aa) fun ab =>
  En w k ad (k2 + 1) ab
def El (w : List Int) : Nat → Int → (List Int) → Option (List Int)
  | 0, _k, BD =>
  some BD
  | ab + 1, k, BD =>
  b1 (gd (C9 0 ∧ C9 5) <|
  En w k (Int.toNat (5 - 0)) 0 BD) fun aa =>
  El w ab (k + 1) aa
def GD (w : List Int) : Option (List Int) :=
  b1 (gd (C9 0 ∧ C9 5) <|
  El w (Int.toNat (5 - 0)) 0 w) fun out =>
  some out
def Dh : List Int → (List Int) → Option (List Int)
  | [], aa =>
  some aa
  | x :: ab, aa =>
  ap aa [x] fun ad =>
  Dh ab ad
def Gw (s_ seq : List Int) : Option (List Int) :=
  b1 (Dh seq s_) fun aa =>
  some aa
def I3 (seq : List Int) : Option (List Int) :=
  b1 (Gw [] seq) fun l =>
  some l
def II (x : Int) : Option Bool :=
  some (decide (x ≠ x))
def It (x y : Int) : Option Bool :=
  b1 (II x) fun ok =>
  if ok = true then
  (b1 (II y) fun aa =>
  if (!aa) = true then
  (some true)
  else
  (some (decide (x < y))))
  else
  (some (decide (x < y)))
def Ct (a : Int) : Nat → (List Int) → Int → Option (List Int)
  | 0, _, _ => none
  | ab + 1, aa, j =>
  b1 (if a < j then
  (ix aa j fun x =>
  gd (C9 (j - 1)) <|
  ix aa (j - 1) fun x2 =>
  b1 (It x x2) fun ok =>
  some ok)
  else
  (some false)) fun k =>
  if k = true then
  (gd (C9 (j - 1)) <|
  gd (C9 (j - 1)) <|
  ix aa (j - 1) fun x3 =>
  ix aa j fun x4 =>
  bv (aa.set (j : Int).toNat x3) fun l =>
  ix l (j - 1) fun _x5 =>
  bv (l.set (j - 1 : Int).toNat x4) fun l2 =>
  gd (C9 (j - 1)) <|
  Ct a ab l2 (j - 1))
  else
  (some aa)
def Cr (a : Int) : Nat → Int → (List Int) → Option (List Int)
  | 0, _i, data =>
  some data
  | ab + 1, i, data =>
  b1 (Ct a FU data i) fun aa =>
  Cr a ab (i + 1) aa
def EA (s_ : List Int) (a b : Int) : Option (List Int) :=
  gd (C9 (a + 1)) <|
  gd (C9 (a + 1) ∧ C9 b) <|
  Cr a (Int.toNat (b - (a + 1))) (a + 1) s_
def Km (x : Int) : Option Int :=
  b2 (if 4294967296 ≤ x then
  (some (shr x 32, 32))
  else
  (some (x, 0))) fun x2 n =>
  b2 (if 65536 ≤ x2 then
  (gd (C9 (n + 16)) <|
  some (shr x2 16, n + 16))
  else
  (some (x2, n))) fun x3 n2 =>
  b2 (if 256 ≤ x3 then
  (gd (C9 (n2 + 8)) <|
  some (shr x3 8, n2 + 8))
  else
  (some (x3, n2))) fun x4 n3 =>
  ix Uj (x4 % 256) fun x5 =>
  gd (C9 x5) <|
  gd (C9 (n3 + x5)) <|
  some (n3 + x5)
def LG (x : Int) : Option Int :=
  b1 (Km x) fun n =>
  some n
def DU (s_ : List Int) (a b : Int) : Nat → Option (List Int)
  | 0 => none
  | _ab + 1 =>
  gd (C9 (b - a)) <|
  gd ((b - a) ≤ 12) <|
  b1 (EA s_ a b) fun aa =>
  some aa
def FT (_ab : (List Int) → Int → Int → Int → Option ((List Int))) (s_ : List Int) (a b _aa : Int) : Option (List Int) :=
  DU s_ a b FU
def DJ : Nat → (List Int) → Int → Int → Int → Option (List Int)
  | 0, _, _, _, _ => none
  | fu + 1, s_, a, b, aa =>
  FT (DJ fu) s_ a b aa
def Iz (s_ : List Int) : Option (List Int) :=
  b1 (LG ((s_.length : Int) % 18446744073709551616)) fun n =>
  b1 (DJ FU s_ 0 (s_.length : Int) n) fun aa =>
  some aa
def Jq (seq : List Int) : Option (List Int) :=
  b1 (I3 seq) fun l =>
  b1 (Iz l) fun s_ =>
  some s_
def Dx : List Int → Option (List Int)
  | [] =>
  some []
  | x :: aa =>
  yl x <|
  Dx aa
def G3 (s_ : List Int) : Option (List Int) :=
  Dx s_
def HN (s_ : List Int) : Option (List Int) :=
  b1 (G3 s_) fun l =>
  some l
def Gd (walks : DW) (k : Int) : Nat → Int → (List Int) → Option (List Int)
  | 0, _k2, aa =>
  some aa
  | ab + 1, k2, aa =>
  gd (0 ≤ k ∧ k < 5) <|
  gd (0 ≤ k2 ∧ k2 < 5) <|
  ix aa (k * 5 + k2) fun _x =>
  bv (aa.set (k * 5 + k2 : Int).toNat (-1)) fun ws =>
  b1 (if k < (walks.length : Int) then
  (some (decide (k2 < (walks.length : Int))))
  else
  (some false)) fun k3 =>
  if k3 = true then
  (ix walks k fun x2 =>
  ix x2 k2 fun x3 =>
  gd (0 ≤ k ∧ k < 5) <|
  gd (0 ≤ k2 ∧ k2 < 5) <|
  ix ws (k * 5 + k2) fun _x4 =>
  bv (ws.set (k * 5 + k2 : Int).toNat x3) fun ad =>
  Gd walks k ab (k2 + 1) ad)
  else
  (Gd walks k ab (k2 + 1) ws)
def HI (walks : DW) : Nat → Int → (List Int) → Option (List Int)
  | 0, _k, aa =>
  some aa
  | ad + 1, k, aa =>
  b1 (gd (C9 0 ∧ C9 5) <|
  Gd walks k (Int.toNat (5 - 0)) 0 aa) fun ab =>
  HI walks ad (k + 1) ab
def HC : Nat → (List Int) → (List Int) → Option (List Int)
  | 0, _, _ => none
  | ad + 1, aa, ab =>
  gd (∀ x_ ∈ ab, C9 x_) <|
  gd (∀ x_ ∈ aa, C9 x_) <|
  if ab ≠ aa then
  (b1 (GD ab) fun a2 =>
  HC ad ab a2)
  else
  (some aa)
def Gb (k4 : Int) (aa : List (Int × Int)) (x6 : Int) : DW → Int → (List Int) → Option (List Int)
  | [], _k6, ab =>
  some ab
  | x7 :: ad, k6, ab =>
  b1 (Bu x7 x6) fun ok =>
  if ok = true then
  (gd (0 ≤ k6 ∧ k6 < 5) <|
  gd (0 ≤ k4 ∧ k4 < 3) <|
  ix ab (k6 * 3 + k4) fun x8 =>
  gd ((0 ≤ ((aa.length : Int) : Int) ∧ ((aa.length : Int) : Int) < 64) ∧ C9 (shl 1 (aa.length : Int))) <|
  gd (0 ≤ k6 ∧ k6 < 5) <|
  gd (0 ≤ k4 ∧ k4 < 3) <|
  bv (ab.set (k6 * 3 + k4 : Int).toNat (YR x8 (shl 1 (aa.length : Int)))) fun ae =>
  Gb k4 aa x6 ad (k6 + 1) ae)
  else
  (Gb k4 aa x6 ad (k6 + 1) ab)
def HE (Al : DW) (k4 : Int) : List Int → (List (Int × Int)) → (List Int) → Option ((List (Int × Int)) × (List Int))
  | [], aa, ab =>
  some (aa, ab)
  | x6 :: ah, aa, ab =>
  b2 (b1 (Gb k4 aa x6 Al 0 ab) fun ae =>
  ap aa [(k4, x6)] fun c =>
  some (c, ae)) fun ad af =>
  HE Al k4 ah ad af
def HH (Al : DW) : PT → Int → (List (Int × Int)) → (List Int) → Option ((List (Int × Int)) × (List Int))
  | [], _k4, aa, ab =>
  some (aa, ab)
  | x5 :: af, k4, aa, ab =>
  b2 (b1 (HN x5.1) fun y =>
  b1 (Jq y) fun l =>
  HE Al k4 l aa ab) fun ad ae =>
  HH Al af (k4 + 1) ad ae
def Mu (walks Al : DW) (Ad start : Int) (Ab : PT) : Option ((Option (DW × DW × Int × Int × PT × (List Int) × (List (Int × Int)) × (List Int))) × Int) :=
  b1 (Nt walks Al Ad start Ab) fun n =>
  if n ≠ 0 then
  (some (none, n))
  else
  (b1 (gd (C9 0 ∧ C9 5) <|
  HI walks (Int.toNat (5 - 0)) 0 (List.replicate 25 0)) fun aa =>
  b1 (b1 (GD aa) fun a =>
  HC FU aa a) fun ab =>
  b2 (HH Al Ab 0 [] (List.replicate 15 0)) fun ad ae =>
  some (some (walks, Al, Ad, start, Ab, ab, ad, ae), 0))
def GR (k : Int) (aa : Int → Option (List ((Int × Int) × Int))) : Option (List ((Int × Int) × Int)) :=
  aa (k + 1)
def Dn (IP : List Int) (EB k : Int) (aa : Int → Option (List ((Int × Int) × Int))) : PT → Int → Option (List ((Int × Int) × Int))
  | [], _k2 =>
  GR k aa
  | _x2 :: ab, k2 =>
  gd (0 ≤ k ∧ k < 5) <|
  gd (0 ≤ k2 ∧ k2 < 3) <|
  ix IP (k * 3 + k2) fun x3 =>
  if (N5 EB x3) ≠ EB then
  (yl ((k, k2), N5 EB x3) <|
  Dn IP EB k aa ab (k2 + 1))
  else
  (Dn IP EB k aa ab (k2 + 1))
def CL (Ab : PT) (IP : List Int) (EB : Int) : DW → Int → Option (List ((Int × Int) × Int))
  | [], _k =>
  some []
  | _x :: aa, k =>
  Dn IP EB k (CL Ab IP EB aa) Ab 0
def Ij (_walks Al : DW) (_Ad _start : Int) (Ab : PT) (_BS : List Int) (_Cg : List (Int × Int)) (IP : List Int) (EB : Int) : Option (List ((Int × Int) × Int)) :=
  CL Ab IP EB Al 0
def I4 (walks Al : DW) (Ad start : Int) (Ab : PT) (BS : List Int) (Cg : List (Int × Int)) (IP : List Int) (EB : Int) : Option (List ((Int × Int) × Int)) :=
  b1 (Ij walks Al Ad start Ab BS Cg IP EB) fun l =>
  some l
def B9 : Nat → (List (Int × Int)) → Int → Int → Option (List (Int × Int))
  | 0, _, _, _ => none
  | ab + 1, aa, i, j =>
  if i < j then
  (ix aa j fun x =>
  ix aa i fun x2 =>
  bv (aa.set (i : Int).toNat (x.1, x.2)) fun l =>
  ix l j fun _x3 =>
  bv (l.set (j : Int).toNat (x2.1, x2.2)) fun l2 =>
  gd (C9 (i + 1)) <|
  gd (C9 (j - 1)) <|
  B9 ab l2 (i + 1) (j - 1))
  else
  (some aa)
def D5 (s_ : List (Int × Int)) : Option (List (Int × Int)) :=
  gd (C9 ((s_.length : Int) - 1)) <|
  B9 FU s_ 0 ((s_.length : Int) - 1)
def Dq (Ab : PT) (BS : List Int) (ok : (Int × Int) → Option Bool) (aa : Int) (ad : List ((Int × Int) × (Int × Int × Int × Int × Int))) (k : Int) : List ((Int × Int) × Int) → (List ((Int × Int) × (Int × Int × Int × Int × Int))) → Option (List ((Int × Int) × (Int × Int × Int × Int × Int)))
  | [], ab =>
  some ab
  | x2 :: ae, ab =>
  gd (0 ≤ k ∧ k < 5) <|
  gd (0 ≤ x2.1.1 ∧ x2.1.1 < 5) <|
  ix BS (k * 5 + x2.1.1) fun x3 =>
  if x3 = (-1) then
  (Dq Ab BS ok aa ad k ae ab)
  else
  (gd (C9 ((((Bz ad (k, aa)).getD (0, 0, 0, 0, 0)).1) + x3)) <|
  ix Ab x2.1.2 fun x4 =>
  gd (C9 (((((Bz ad (k, aa)).getD (0, 0, 0, 0, 0)).1) + x3) + x4.2.1)) <|
  bv (((((Bz ad (k, aa)).getD (0, 0, 0, 0, 0)).1) + x3) + x4.2.1) fun end_ =>
  b1 (b1 (ok (x2.1.2, end_)) fun ah =>
  if ah = true then
  (if (!((Bz ab (x2.1.1, x2.2)).isSome)) = true then
  (some true)
  else
  (some (decide (end_ < (((Bz ab (x2.1.1, x2.2)).getD (0, 0, 0, 0, 0)).1)))))
  else
  (some false)) fun k2 =>
  if k2 = true then
  (bv (JL ab (x2.1.1, x2.2) (end_, x2.1.1, x2.1.2, k, aa)) fun af =>
  Dq Ab BS ok aa ad k ae af)
  else
  (Dq Ab BS ok aa ad k ae ab))
def E4 (walks Al : DW) (Ad start : Int) (Ab : PT) (BS : List Int) (Cg : List (Int × Int)) (IP : List Int) (ok : (Int × Int) → Option Bool) (aa : Int) : DW → Int → (List ((Int × Int) × (Int × Int × Int × Int × Int))) → Option (List ((Int × Int) × (Int × Int × Int × Int × Int)))
  | [], _k, ab =>
  some ab
  | _x :: ae, k, ab =>
  b1 (if (!((Bz ab (k, aa)).isSome)) = true then
  (some ab)
  else
  (b1 (I4 walks Al Ad start Ab BS Cg IP aa) fun y =>
  Dq Ab BS ok aa ab k y ab)) fun ad =>
  E4 walks Al Ad start Ab BS Cg IP ok aa ae (k + 1) ad
def EU (walks Al : DW) (Ad start : Int) (Ab : PT) (BS : List Int) (Cg : List (Int × Int)) (IP : List Int) (EB : Int) (ok : (Int × Int) → Option Bool) : Nat → (List ((Int × Int) × (Int × Int × Int × Int × Int))) → Int → Option (List ((Int × Int) × (Int × Int × Int × Int × Int)))
  | 0, _, _ => none
  | ae + 1, ab, aa =>
  if 0 < aa then
  (b1 (if (N5 aa EB) ≠ 0 then
  (some ab)
  else
  (E4 walks Al Ad start Ab BS Cg IP ok aa Al 0 ab)) fun ad =>
  gd (C9 (aa - 1)) <|
  EU walks Al Ad start Ab BS Cg IP EB ok ae ad (aa - 1))
  else
  (some ab)
def D7 (ad : List ((Int × Int) × (Int × Int × Int × Int × Int))) : DW → Int → Int → Int → Option (Int × Int)
  | [], _k3, aa, ab =>
  some (aa, ab)
  | _x5 :: af, k3, aa, ab =>
  b1 (if ((Bz ad (k3, 0)).isSome) = true then
  (if ab = (-1) then
  (some true)
  else
  (some (decide ((((Bz ad (k3, 0)).getD (0, 0, 0, 0, 0)).1) < ab))))
  else
  (some false)) fun k4 =>
  if k4 = true then
  (bv (((Bz ad (k3, 0)).getD (0, 0, 0, 0, 0)).1) fun ae =>
  D7 ad af (k3 + 1) k3 ae)
  else
  (D7 ad af (k3 + 1) aa ab)
def EZ (EB : Int) (ad : List ((Int × Int) × (Int × Int × Int × Int × Int))) : Nat → Int → Int → (List (Int × Int)) → Option (List (Int × Int))
  | 0, _, _, _ => none
  | af + 1, aa, ab, BD =>
  if ab ≠ EB then
  (ap BD [(((Bz ad (aa, ab)).getD (0, 0, 0, 0, 0)).2.1, ((Bz ad (aa, ab)).getD (0, 0, 0, 0, 0)).2.2.1)] fun ae =>
  EZ EB ad af (((Bz ad (aa, ab)).getD (0, 0, 0, 0, 0)).2.2.2.1) (((Bz ad (aa, ab)).getD (0, 0, 0, 0, 0)).2.2.2.2) ae)
  else
  (some BD)
def Jt (walks Al : DW) (Ad start : Int) (Ab : PT) (BS : List Int) (Cg : List (Int × Int)) (IP : List Int) (EB : Int) (ok : (Int × Int) → Option Bool) : Option ((List (Int × Int)) × Int × Bool) :=
  bv (JL [] (start, EB) (0, 0, 0, 0, 0)) fun met =>
  b1 (EU walks Al Ad start Ab BS Cg IP EB ok FU met EB) fun ab =>
  b2 (D7 ab Al 0 (-1) (-1)) fun aa minute =>
  if minute = (-1) then
  (some ([], 0, false))
  else
  (b1 (EZ EB ab FU aa 0 []) fun out =>
  b1 (D5 out) fun s_ =>
  some (s_, minute, true))
def Ki (_walks _Al : DW) (_Ad _start : Int) (_Ab : PT) (_BS : List Int) (Cg : List (Int × Int)) (_IP : List Int) : Option Int :=
  gd ((0 ≤ ((Cg.length : Int) : Int) ∧ ((Cg.length : Int) : Int) < 64) ∧ C9 (shl 1 (Cg.length : Int))) <|
  gd (C9 ((shl 1 (Cg.length : Int)) - 1)) <|
  some ((shl 1 (Cg.length : Int)) - 1)
def Im (Ba minute last : Int) (_walks _Al : DW) (_Ad _start : Int) (Ab : PT) (_BS : List Int) (_Cg : List (Int × Int)) (_IP : List Int) : Option Bool :=
  ix Ab Ba fun x =>
  some (decide (minute ≤ (if x.2.2 < last then x.2.2 else last)))
def K2 (walks Al : DW) (Ad start : Int) (Ab : PT) (BS : List Int) (Cg : List (Int × Int)) (IP : List Int) (last : Int) : Option ((Int × Int) → Option Bool) :=
  some (fun aa : Int × Int => Im aa.1 aa.2 last walks Al Ad start Ab BS Cg IP)
def Jo (walks Al : DW) (Ad start : Int) (Ab : PT) (BS : List Int) (Cg : List (Int × Int)) (IP : List Int) : Option ((Int × Int) → Option Bool) :=
  b1 (K2 walks Al Ad start Ab BS Cg IP 200) fun y =>
  some y
def N9 (walks Al : DW) (Ad start : Int) (Ab : PT) : Option ((List (Int × Int)) × Int × Int) :=
  b2 (Mu walks Al Ad start Ab) fun d n =>
  if n ≠ 0 then
  (some ([], 0, n))
  else
  (b8 d fun BS ab Bp ad aa ae Cg IP =>
  b1 (Ki BS ab Bp ad aa ae Cg IP) fun n2 =>
  b1 (Jo BS ab Bp ad aa ae Cg IP) fun y =>
  b3 (Jt BS ab Bp ad aa ae Cg IP n2 y) fun l n3 ok =>
  if (!ok) = true then
  (some ([], 0, 6))
  else
  (some (l, n3, 0)))
def IK : List Int → Int → Option Int
  | [], n3 =>
  some n3
  | x :: aa, n3 =>
  IK aa (if x < n3 then x else n3)
def On (n : Int) (more : List Int) : Option Int :=
  b1 (IK more n) fun n2 =>
  some n2
def KC (a b : Int) : Option Bool :=
  gd (C9 (a - b)) <|
  gd (C9 ((a - b) + 8)) <|
  gd (C9 (8 - (Int.tmod ((a - b) + 8) 8))) <|
  b1 (On (Int.tmod ((a - b) + 8) 8) [8 - (Int.tmod ((a - b) + 8) 8)]) fun n =>
  some (decide (n ≤ 1))
def Dy (_Ad _Ab : Int) (_Al : IJ) (Ak : List Int) (_Az : Is) (hour Cf : Int) : Option Bool :=
  ix Ak hour fun x =>
  if x = (-1) then
  (some true)
  else
  (b1 (KC Cf x) fun ok =>
  some ok)
def CZ (s_ : List Int) : Option (List Int) :=
  Qe (s_ = []) (some []) (ap ([] : List Int) s_ fun l =>
  some l)
def Et (x : Int × Int × Int) : List Int → (List Bool) → Option (List Bool)
  | [], g5 =>
  some g5
  | x4 :: aa, g5 =>
  gd (0 ≤ x4 ∧ x4 < 6) <|
  gd (0 ≤ x.2.2 ∧ x.2.2 < 4) <|
  ix g5 (x4 * 4 + x.2.2) fun _x5 =>
  bv (g5.set (x4 * 4 + x.2.2 : Int).toNat true) fun l =>
  Et x aa l
def Ev (Al : IJ) (hour Cf : Int) : Is → (List Bool) → Option (List Bool)
  | [], g3 =>
  some g3
  | x :: aa, g3 =>
  b1 (if x.1 ≠ hour then
  (some g3)
  else
  (ix Al x.2.1 fun x2 =>
  ix x2 Cf fun x3 =>
  Et x x3 g3)) fun g4 =>
  Ev Al hour Cf aa g4
def GZ (_Ad _Ab : Int) (Al : IJ) (_Ak : List Int) (Az : Is) (g : List Bool) (hour Cf : Int) : Option (List Bool) :=
  b1 (Ev Al hour Cf Az g) fun g2 =>
  some g2
def Fz (Cf : Int) : Nat → Int → Option (List Int)
  | 0, _k =>
  some []
  | aa + 1, k =>
  b1 (KC k Cf) fun ok =>
  if ok = true then
  (yl k <|
  Fz Cf aa (k + 1))
  else
  (Fz Cf aa (k + 1))
def LP (Cf : Int) : Option (List Int) :=
  gd (C9 0 ∧ C9 8) <|
  Fz Cf (Int.toNat (8 - 0)) 0
def J9 (Cf : Int) : Option (List Int) :=
  b1 (LP Cf) fun l =>
  some l
def CS : Option Int :=
  some (-1)
def Bs (f : ((List Bool) × (List Int)) → Option Bool) : List ((List Bool) × (List Int)) → Int → Option Int
  | [], _k =>
  CS
  | x :: aa, k =>
  b1 (f (x.1, x.2)) fun ok =>
  if ok = true then
  (some k)
  else
  (Bs f aa (k + 1))
def Cu (s_ : List ((List Bool) × (List Int))) (f : ((List Bool) × (List Int)) → Option Bool) : Option Int :=
  Bs f s_ 0
def BA (s_ : List ((List Bool) × (List Int))) (f : ((List Bool) × (List Int)) → Option Bool) : Option Bool :=
  b1 (Cu s_ f) fun n =>
  some (decide (0 ≤ n))
def DL (_Cf : Int) (SI : List Bool) (Fk : List Int) (aa : Int) (x : (Int × Int) → Option Bool) (x2 Ad Ab : Int) (Al : IJ) (Ak : List Int) (Az : Is) (x3 : List ((Int × (List Bool)) × Bool)) (ab : List (Int × (List Bool) × (List Int))) : Option ((List ((Int × (List Bool)) × Bool)) × (List (Int × (List Bool) × (List Int)))) :=
  b1 (x (x2, aa)) fun ok =>
  if (!ok) = true then
  (some (x3, ab))
  else
  (b1 (GZ Ad Ab Al Ak Az SI x2 aa) fun a =>
  gd (C9 aa) <|
  if (!((Bz x3 (aa, a)).getD false)) = true then
  (gd (C9 aa) <|
  bv (JL x3 (aa, a) true) fun met =>
  b1 (CZ Fk) fun l =>
  ap l [aa] fun l2 =>
  ap ab [(aa, a, l2)] fun l3 =>
  some (met, l3))
  else
  (some (x3, ab)))
def Fp (SI : List Bool) (_Fk : List Int) (_Cf : Int) (ab : List Bool) (_aa : List Int) : Option Bool :=
  some (decide (SI = ab))
def Ck (Ad Ab : Int) (Al : IJ) (Ak : List Int) (Az : Is) (k : Int) : Nat → Int → (List (Int × (List Bool) × (List Int))) → (List ((Int × (List Bool)) × Bool)) → Option ((List (Int × (List Bool) × (List Int))) × (List ((Int × (List Bool)) × Bool)))
  | 0, _k2, aa, m2 =>
  some (aa, m2)
  | ae + 1, k2, aa, m2 =>
  b2 (DL 0 (List.replicate 24 false) [] k2 (fun ad : Int × Int => Dy Ad Ab Al Ak Az ad.1 ad.2) k Ad Ab Al Ak Az m2 aa) fun x2 ab =>
  Ck Ad Ab Al Ak Az k ae (k2 + 1) ab x2
def Dr (Ad Ab : Int) (Al : IJ) (Ak : List Int) (Az : Is) (k : Int) (x3 : Int × (List Bool) × (List Int)) : List Int → (List (Int × (List Bool) × (List Int))) → (List ((Int × (List Bool)) × Bool)) → Option ((List (Int × (List Bool) × (List Int))) × (List ((Int × (List Bool)) × Bool)))
  | [], aa, m5 =>
  some (aa, m5)
  | x4 :: ae, aa, m5 =>
  b2 (DL x3.1 x3.2.1 x3.2.2 x4 (fun ad : Int × Int => Dy Ad Ab Al Ak Az ad.1 ad.2) k Ad Ab Al Ak Az m5 aa) fun x5 ab =>
  Dr Ad Ab Al Ak Az k x3 ae ab x5
def Cl (Ad Ab : Int) (Al : IJ) (Ak : List Int) (Az : Is) (k : Int) : List (Int × (List Bool) × (List Int)) → (List (Int × (List Bool) × (List Int))) → (List ((Int × (List Bool)) × Bool)) → Option (List (Int × (List Bool) × (List Int)))
  | [], aa, _m3 =>
  some aa
  | x3 :: ad, aa, m3 =>
  b2 (b1 (J9 x3.1) fun y =>
  Dr Ad Ab Al Ak Az k x3 y aa m3) fun ab m4 =>
  Cl Ad Ab Al Ak Az k ad ab m4
def Cj (Ad Ab : Int) (Al : IJ) (Ak : List Int) (Az : Is) : List Int → Int → (List (Int × (List Bool) × (List Int))) → Option (List (Int × (List Bool) × (List Int)))
  | [], _k, aa =>
  some aa
  | _x :: af, k, aa =>
  b1 (b2 (if k = 0 then
  (gd (C9 0 ∧ C9 8) <|
  Ck Ad Ab Al Ak Az k (Int.toNat (8 - 0)) 0 [] [])
  else
  (some ([], []))) fun ab m =>
  b1 (Cl Ad Ab Al Ak Az k aa ab m) fun ad =>
  some ad) fun ae =>
  Cj Ad Ab Al Ak Az af (k + 1) ae
def CW : List (Int × (List Bool) × (List Int)) → (List ((List Bool) × (List Int))) → Option (List ((List Bool) × (List Int)))
  | [], BD =>
  some BD
  | x6 :: ab, BD =>
  b1 (BA BD (fun ad : ((List Bool) × (List Int)) => Fp ad.1 ad.2 x6.1 x6.2.1 x6.2.2)) fun ok =>
  if (!ok) = true then
  (ap BD [(x6.2.1, x6.2.2)] fun aa =>
  CW ab aa)
  else
  (CW ab BD)
def Dg (Ad Ab : Int) (Al : IJ) (Ak : List Int) (Az : Is) : Option (List ((List Bool) × (List Int))) :=
  b1 (Cj Ad Ab Al Ak Az Ak 0 []) fun now =>
  b1 (CW now []) fun out =>
  some out
def HV (n lo hi : Int) : Option Bool :=
  if lo ≤ n then
  (some (decide (n ≤ hi)))
  else
  (some false)
def Gc (Ad _Ab : Int) (_Al : IJ) (_Ak : List Int) (_Az : Is) (h : Int) : Option Bool :=
  gd (C9 (Ad - 1)) <|
  b1 (HV h 0 (Ad - 1)) fun ok =>
  some ok
def IB : Option Int :=
  some 0
def DP (Ad Ab : Int) (Al : IJ) (Ak : List Int) (Az : Is) (l : List Int) : List Int → Int → Option Int
  | [], _k =>
  IB
  | x :: aa, k =>
  b1 (Gc Ad Ab Al Ak Az x) fun ok =>
  if (!ok) = true then
  (some 1)
  else
  (gd ((0 ≤ (0 : Int) ∧ (0 : Int) ≤ k) ∧ k ≤ l.length) <|
  bv (sl l 0 k) fun l2 =>
  b1 (Bu l2 x) fun ab =>
  if ab = true then
  (some 5)
  else
  (DP Ad Ab Al Ak Az l aa (k + 1)))
def GU (Ad Ab : Int) (Al : IJ) (Ak : List Int) (Az : Is) (l : List Int) : Option Int :=
  DP Ad Ab Al Ak Az l l 0
def Fl : Option Int :=
  some (-1)
def Cc (f : Int → Option Bool) : List Int → Int → Option Int
  | [], _k =>
  Fl
  | x :: aa, k =>
  b1 (f x) fun ok =>
  if ok = true then
  (some k)
  else
  (Cc f aa (k + 1))
def EC (s_ : List Int) (f : Int → Option Bool) : Option Int :=
  Cc f s_ 0
def CC (s_ : List Int) (f : Int → Option Bool) : Option Bool :=
  b1 (EC s_ f) fun n =>
  some (decide (0 ≤ n))
def GL (x : Int) (so : Int → Option Bool) : Option Bool :=
  b1 (so x) fun ok =>
  some (!ok)
def FN (l : List Int) (so : Int → Option Bool) : Option Bool :=
  b1 (CC l (fun aa : Int => GL aa so)) fun ok =>
  some (!ok)
def EW : Option Int :=
  some (-1)
def B6 (f : DW → Option Bool) : IJ → Int → Option Int
  | [], _k =>
  EW
  | x :: aa, k =>
  b1 (f x) fun ok =>
  if ok = true then
  (some k)
  else
  (B6 f aa (k + 1))
def Er (s_ : IJ) (f : DW → Option Bool) : Option Int :=
  B6 f s_ 0
def CX (s_ : IJ) (f : DW → Option Bool) : Option Bool :=
  b1 (Er s_ f) fun n =>
  some (decide (0 ≤ n))
def Ge (x : DW) (so : DW → Option Bool) : Option Bool :=
  b1 (so x) fun ok =>
  some (!ok)
def Hu (l : IJ) (so : DW → Option Bool) : Option Bool :=
  b1 (CX l (fun aa : DW => Ge aa so)) fun ok =>
  some (!ok)
def Fq (l : DW) : Option Bool :=
  some (decide ((l.length : Int) = 8))
def HR (Ad Ab : Int) (Al : IJ) (Ak : List Int) (Az : Is) : Option Bool :=
  b1 (HV Ad 1 6) fun ok =>
  if ok = true then
  (b1 (HV Ab 1 4) fun aa =>
  if aa = true then
  (b1 (HV (Al.length : Int) 1 4) fun ab =>
  if ab = true then
  (b1 (HV (Ak.length : Int) 1 8) fun ad =>
  if ad = true then
  (if (Az.length : Int) ≤ 12 then
  (b1 (Hu Al (fun ae : DW => Fq ae)) fun af =>
  some af)
  else
  (some false))
  else
  (some false))
  else
  (some false))
  else
  (some false))
  else
  (some false)
def KD (n : Int) : Option Bool :=
  if n = (-1) then
  (some true)
  else
  (b1 (HV n 0 7) fun ok =>
  some ok)
def DC : Option Int :=
  some (-1)
def BE (f : (Int × Int × Int) → Option Bool) : Is → Int → Option Int
  | [], _k =>
  DC
  | x :: aa, k =>
  b1 (f (x.1, x.2.1, x.2.2)) fun ok =>
  if ok = true then
  (some k)
  else
  (BE f aa (k + 1))
def C6 (s_ : Is) (f : (Int × Int × Int) → Option Bool) : Option Int :=
  BE f s_ 0
def Ca (s_ : Is) (f : (Int × Int × Int) → Option Bool) : Option Bool :=
  b1 (C6 s_ f) fun n =>
  some (decide (0 ≤ n))
def GK (hour DK Ba : Int) (so : (Int × Int × Int) → Option Bool) : Option Bool :=
  b1 (so (hour, DK, Ba)) fun ok =>
  some (!ok)
def Ib (l : Is) (so : (Int × Int × Int) → Option Bool) : Option Bool :=
  b1 (Ca l (fun aa : (Int × Int × Int) => GK aa.1 aa.2.1 aa.2.2 so)) fun ok =>
  some (!ok)
def EG (_Ad Ab : Int) (_Al : IJ) (_Ak : List Int) (_Az : Is) (n : Int) : Option Bool :=
  gd (C9 (Ab - 1)) <|
  b1 (HV n 0 (Ab - 1)) fun ok =>
  some ok
def GP (_Ad _Ab : Int) (_Al : IJ) (Ak : List Int) (_Az : Is) (h : Int) : Option Bool :=
  gd (C9 ((Ak.length : Int) - 1)) <|
  b1 (HV h 0 ((Ak.length : Int) - 1)) fun ok =>
  some ok
def Jj (hour DK Ba Ad Ab : Int) (Al : IJ) (Ak : List Int) (Az : Is) : Option Bool :=
  b1 (GP Ad Ab Al Ak Az hour) fun ok =>
  if ok = true then
  (gd (C9 ((Al.length : Int) - 1)) <|
  b1 (HV DK 0 ((Al.length : Int) - 1)) fun aa =>
  if aa = true then
  (b1 (EG Ad Ab Al Ak Az Ba) fun ab =>
  some ab)
  else
  (some false))
  else
  (some false)
def LM (aa : Option Int) : Option Int :=
  aa
def Gv (Ad Ab : Int) (Al : IJ) (Ak : List Int) (Az : Is) (aa : Option Int) : DW → Option Int
  | [] =>
  LM aa
  | x2 :: ab =>
  b1 (GU Ad Ab Al Ak Az x2) fun n =>
  if n ≠ 0 then
  (some n)
  else
  (Gv Ad Ab Al Ak Az aa ab)
def JZ (Ad Ab : Int) (Al : IJ) (Ak : List Int) (Az : Is) : Option Int :=
  b1 (FN Ak (fun aa : Int => KD aa)) fun ab =>
  if (!ab) = true then
  (some 3)
  else
  (b1 (Ib Az (fun aa : (Int × Int × Int) => Jj aa.1 aa.2.1 aa.2.2 Ad Ab Al Ak Az)) fun ad =>
  if (!ad) = true then
  (some 1)
  else
  (some 0))
def Ek (Ad Ab : Int) (Al : IJ) (Ak : List Int) (Az : Is) : IJ → Option Int
  | [] =>
  JZ Ad Ab Al Ak Az
  | x :: aa =>
  Gv Ad Ab Al Ak Az (Ek Ad Ab Al Ak Az aa) x
def I0 (Ad Ab : Int) (Al : IJ) (Ak : List Int) (Az : Is) : Option Int :=
  b1 (HR Ad Ab Al Ak Az) fun ok =>
  if (!ok) = true then
  (some 2)
  else
  (Ek Ad Ab Al Ak Az Al)
def I9 (Ad Ab : Int) (Al : IJ) (Ak : List Int) (Az : Is) : Option ((Option (Int × Int × IJ × (List Int) × Is)) × Int) :=
  b1 (I0 Ad Ab Al Ak Az) fun n =>
  if n ≠ 0 then
  (some (none, n))
  else
  (some (some (Ad, Ab, Al, Ak, Az), 0))
def JT (Ad Ab : Int) (Al : IJ) (Ak : List Int) (Az : Is) : Option ((Option (Int × Int × IJ × (List Int) × Is)) × (List ((List Bool) × (List Int))) × Int) :=
  b2 (I9 Ad Ab Al Ak Az) fun d n =>
  if n ≠ 0 then
  (some (none, [], n))
  else
  (b5 d fun Bp ab ad aa ae =>
  b1 (Dg Bp ab ad aa ae) fun l =>
  if (l.length : Int) = 0 then
  (some (none, [], 7))
  else
  (some (some (Bp, ab, ad, aa, ae), l, 0)))
def DA (k k2 : Int) : List ((List Bool) × (List Int)) → Int → Option Int
  | [], aa =>
  some aa
  | x :: ab, aa =>
  gd (0 ≤ k ∧ k < 6) <|
  gd (0 ≤ k2 ∧ k2 < 4) <|
  ix x.1 (k * 4 + k2) fun x2 =>
  if x2 = true then
  (gd (C9 (aa + 1)) <|
  DA k k2 ab (aa + 1))
  else
  (DA k k2 ab aa)
def D8 (l : List ((List Bool) × (List Int))) (k : Int) : Nat → Int → DW → Option DW
  | 0, _k2, aa =>
  some aa
  | ae + 1, k2, aa =>
  b1 (b1 (DA k k2 l 0) fun many =>
  b1 (if many = (l.length : Int) then
  (some 1)
  else
  (if many = 0 then
  (some 2)
  else
  (some 0))) fun v =>
  ix aa k fun x3 =>
  ap x3 [v] fun l3 =>
  bv (aa.set (k : Int).toNat l3) fun ab =>
  some ab) fun ad =>
  D8 l k ae (k2 + 1) ad
def D6 (Ab : Int) (l : List ((List Bool) × (List Int))) : Nat → Int → DW → Option DW
  | 0, _k, BD =>
  some BD
  | ab + 1, k, BD =>
  b1 (gd (C9 0 ∧ C9 Ab) <|
  D8 l k (Int.toNat (Ab - 0)) 0 BD) fun aa =>
  D6 Ab l ab (k + 1) aa
def HM (Ad Ab : Int) (Al : IJ) (Ak : List Int) (Az : Is) : Option (DW × Int) :=
  b3 (JT Ad Ab Al Ak Az) fun _d l n =>
  if n ≠ 0 then
  (some ([], n))
  else
  (gd (0 ≤ Ad ∧ Ad ≤ 1048576) <|
  bv (List.replicate (Ad : Int).toNat [] : DW) fun l2 =>
  b1 (gd (C9 0 ∧ C9 (l2.length : Int)) <|
  D6 Ab l (Int.toNat ((l2.length : Int) - 0)) 0 l2) fun out =>
  some (out, 0))
def Mn (n lo hi : Int) : Option Bool :=
  if lo ≤ n then
  (some (decide (n ≤ hi)))
  else
  (some false)
def Jp (_wide : Int) (By : List Int) (p : Int) : Option Bool :=
  gd (C9 ((By.length : Int) - 1)) <|
  b1 (Mn p 0 ((By.length : Int) - 1)) fun ok =>
  some ok
def Mr (wide : Int) (By : List Int) (p kind : Int) : Option Int :=
  b1 (Jp wide By p) fun ok =>
  if (!ok) = true then
  (some 1)
  else
  (ix By p fun x =>
  if x ≠ kind then
  (some 8)
  else
  (some 0))
def Dk : Option Int :=
  some (-1)
def B2 (f : Int → Option Bool) : List Int → Int → Option Int
  | [], _k =>
  Dk
  | x :: aa, k =>
  b1 (f x) fun ok =>
  if ok = true then
  (some k)
  else
  (B2 f aa (k + 1))
def DN (s_ : List Int) (f : Int → Option Bool) : Option Int :=
  B2 f s_ 0
def Dj (s_ : List Int) (f : Int → Option Bool) : Option Bool :=
  b1 (DN s_ f) fun n =>
  some (decide (0 ≤ n))
def HX (x : Int) (so : Int → Option Bool) : Option Bool :=
  b1 (so x) fun ok =>
  some (!ok)
def Ke (l : List Int) (so : Int → Option Bool) : Option Bool :=
  b1 (Dj l (fun aa : Int => HX aa so)) fun ok =>
  some (!ok)
def Kz (p : Int) : Option Bool :=
  b1 (Mn p 0 2) fun ok =>
  some ok
def Ex : List Int → Int → Option Int
  | [], n2 =>
  some n2
  | x :: aa, n2 =>
  if x = 1 then
  (gd (C9 (n2 + 1)) <|
  Ex aa (n2 + 1))
  else
  (Ex aa n2)
def JP (_wide : Int) (By : List Int) : Option Int :=
  b1 (Ex By 0) fun n =>
  some n
def Ou (wide : Int) (By : List Int) : Option Int :=
  b1 (b1 (Mn wide 1 6) fun ok =>
  if (!ok) = true then
  (some true)
  else
  (b1 (Mn (By.length : Int) 1 30) fun aa =>
  if (!aa) = true then
  (some true)
  else
  (gd (wide ≠ 0) <|
  some (decide ((Int.tmod (By.length : Int) wide) ≠ 0))))) fun k =>
  if k = true then
  (some 2)
  else
  (b1 (Ke By (fun ab : Int => Kz ab)) fun ad =>
  if (!ad) = true then
  (some 3)
  else
  (b1 (JP wide By) fun n =>
  if 10 < n then
  (some 2)
  else
  (some 0)))
def KZ (w : Int) : Option Bool :=
  b1 (Mn w 0 4) fun ok =>
  some ok
def Of : Option (List (Int × (Int × Int))) :=
  bv (JL [] 1 (-1, 0)) fun met =>
  bv (JL met 2 (0, 1)) fun aa =>
  bv (JL aa 3 (1, 0)) fun ab =>
  bv (JL ab 4 (0, -1)) fun ad =>
  some ad
def Ns (wide : Int) (By : List Int) (Cf : Int) : Option ((Option (Int × (List Int) × Int × Int × Bool)) × Int) :=
  b1 (Ou wide By) fun n =>
  if n ≠ 0 then
  (some (none, n))
  else
  (b1 (KZ Cf) fun ok =>
  if (!ok) = true then
  (some (none, 3))
  else
  (b1 (Of) fun m =>
  some (some (wide, By, ((Bz m Cf).getD (0, 0)).1, ((Bz m Cf).getD (0, 0)).2, (Bz m Cf).isSome), 0)))
def LB (wide : Int) (By : List Int) (Cf DK : Int) : Option ((Option (Int × (List Int) × Int × Int × Bool)) × Int) :=
  b2 (Ns wide By Cf) fun d n =>
  if n ≠ 0 then
  (some (none, n))
  else
  (b1 (Mr wide By DK 0) fun n2 =>
  if n2 ≠ 0 then
  (some (none, n2))
  else
  (some (d, 0)))
def Jn (_wide : Int) (By : List Int) (p : Int) : Option Bool :=
  ix By p fun x =>
  some (decide (x = 2))
def KK (down CF : Int) : Option (Int × Int) :=
  gd (C9 (-down)) <|
  gd (C9 (-CF)) <|
  some (-down, -CF)
def IU (_wide : Int) (By : List Int) (down CF : Int) (ES : Bool) (ab aa to : Int) : Option Int :=
  b1 (if (!ES) = true then
  (some 2)
  else
  (if ab = down ∧ aa = CF then
  (some 1)
  else
  (b2 (KK down CF) fun n2 n3 =>
  if ab = n2 ∧ aa = n3 then
  (some 4)
  else
  (some 2)))) fun n =>
  ix By to fun x =>
  if x = 1 then
  (gd (C9 (n + 1)) <|
  some (n + 1))
  else
  (some n)
def Cx (p wide : Int) (By : List Int) (down CF : Int) (ES : Bool) (closed : Int → Option Bool) : Nat → Int → Option (List (Int × Int))
  | 0, _k =>
  some []
  | aa + 1, k =>
  ix [(-1, 0), (0, -1), (0, 1), (1, 0)] k fun x =>
  gd (C9 (x.1 * wide)) <|
  gd (C9 (p + (x.1 * wide))) <|
  gd (C9 ((p + (x.1 * wide)) + x.2)) <|
  b1 (Jp wide By ((p + (x.1 * wide)) + x.2)) fun ok =>
  if (!ok) = true then
  (Cx p wide By down CF ES closed aa (k + 1))
  else
  (if x.1 = 0 then
  (gd ((wide : Int) ≠ 0 ∧ C9 (Int.tdiv ((p + (x.1 * wide)) + x.2) wide)) <|
  gd ((wide : Int) ≠ 0 ∧ C9 (Int.tdiv p wide)) <|
  if (Int.tdiv ((p + (x.1 * wide)) + x.2) wide) ≠ (Int.tdiv p wide) then
  (Cx p wide By down CF ES closed aa (k + 1))
  else
  (b1 (closed ((p + (x.1 * wide)) + x.2)) fun ab =>
  if ab = true then
  (Cx p wide By down CF ES closed aa (k + 1))
  else
  (b1 (IU wide By down CF ES x.1 x.2 ((p + (x.1 * wide)) + x.2)) fun n =>
  yl ((p + (x.1 * wide)) + x.2, n) <|
  Cx p wide By down CF ES closed aa (k + 1))))
  else
  (b1 (closed ((p + (x.1 * wide)) + x.2)) fun ad =>
  if ad = true then
  (Cx p wide By down CF ES closed aa (k + 1))
  else
  (b1 (IU wide By down CF ES x.1 x.2 ((p + (x.1 * wide)) + x.2)) fun n2 =>
  yl ((p + (x.1 * wide)) + x.2, n2) <|
  Cx p wide By down CF ES closed aa (k + 1))))
def JM (p wide : Int) (By : List Int) (down CF : Int) (ES : Bool) (closed : Int → Option Bool) : Option (List (Int × Int)) :=
  gd (C9 0 ∧ C9 4) <|
  Cx p wide By down CF ES closed (Int.toNat (4 - 0)) 0
def KE (wide : Int) (By : List Int) (down CF : Int) (ES : Bool) (p : Int) : Option (List (Int × Int)) :=
  b1 (JM p wide By down CF ES (fun aa : Int => Jn wide By aa)) fun l =>
  some l
def Gg : Nat → Int → (List Int) → Option (List Int)
  | 0, _k, BD =>
  some BD
  | ab + 1, k, BD =>
  ix BD k fun _x =>
  bv (BD.set (k : Int).toNat (-1)) fun aa =>
  Gg ab (k + 1) aa
def E9 (x3 : Int) (ad : (List Int) → (List Int) → Option (List Int)) : List (Int × Int) → (List Int) → (List Int) → Option (List Int)
  | [], aa, ab =>
  ad aa ab
  | x4 :: af, aa, ab =>
  b1 (ix aa x4.1 fun x5 =>
  if x5 = (-1) then
  (some true)
  else
  (ix aa x3 fun x6 =>
  gd (C9 (x6 + x4.2)) <|
  some (decide ((x6 + x4.2) < x5)))) fun k2 =>
  if k2 = true then
  (ix aa x3 fun x7 =>
  gd (C9 (x7 + x4.2)) <|
  ix aa x4.1 fun _x8 =>
  bv (aa.set (x4.1 : Int).toNat (x7 + x4.2)) fun l2 =>
  ap ab [x4.1] fun ae =>
  E9 x3 ad af l2 ae)
  else
  (E9 x3 ad af aa ab)
def Fi (wide : Int) (By : List Int) (down CF : Int) (ES : Bool) : Nat → (List Int) → (List Int) → Option (List Int)
  | 0, _, _ => none
  | ad + 1, aa, line =>
  if 0 < (line.length : Int) then
  (ix line 0 fun x3 =>
  gd ((0 ≤ (1 : Int) ∧ (1 : Int) ≤ (line.length : Int)) ∧ (line.length : Int) ≤ line.length) <|
  bv (sl line 1 (line.length : Int)) fun ab =>
  b1 (KE wide By down CF ES x3) fun y =>
  E9 x3 (Fi wide By down CF ES ad) y aa ab)
  else
  (some aa)
def KY (wide : Int) (By : List Int) (down CF : Int) (ES : Bool) (DK : Int) : Option (List Int) :=
  gd (0 ≤ (By.length : Int) ∧ (By.length : Int) ≤ 1048576) <|
  bv (List.replicate ((By.length : Int) : Int).toNat 0 : List Int) fun l =>
  b1 (gd (C9 0 ∧ C9 (l.length : Int)) <|
  Gg (Int.toNat ((l.length : Int) - 0)) 0 l) fun out =>
  ix out DK fun _x2 =>
  bv (out.set (DK : Int).toNat 0) fun aa =>
  b1 (Fi wide By down CF ES FU aa [DK]) fun ab =>
  some ab
def OB (wide : Int) (By : List Int) (Cf DK : Int) : Option ((List Int) × Int) :=
  b2 (LB wide By Cf DK) fun d n =>
  if n ≠ 0 then
  (some ([], n))
  else
  (b5 d fun ab aa down CF ES =>
  b1 (KY ab aa down CF ES DK) fun l =>
  some (l, 0))
def FR (x : List Int) : Nat → (List Int) → Nat → Option (List Int)
  | 0, _, _ => none
  | ab + 1, aa, pos =>
  if pos < x.length then
  (ix x (pos : Nat) fun c =>
  gd (0 ≤ c ∧ c < 128) <|
  b1 (if c = 115 then
  (some 0)
  else
  (some 2)) fun p =>
  b1 (if c = 104 then
  (some 1)
  else
  (some p)) fun p2 =>
  ap aa [p2] fun t =>
  FR x ab t (pos + 1))
  else
  (some aa)
def FO : DW → Int → (List Int) → Option (Int × (List Int))
  | [], ab, aa =>
  some (ab, aa)
  | x :: ae, _ab, aa =>
  b1 (FR x FU aa 0) fun ad =>
  FO ae (x.length : Int) ad
def Kp (rows : DW) : Option (Int × (List Int)) :=
  b2 (FO rows 0 []) fun ab aa =>
  some (ab, aa)
def Kl : Option (DW × DW × Int × Int × PT) :=
  some ([[0, 2, -1], [2, 0, 2], [-1, 2, 0]], [[0], [1], [1, 2]], 3, 0, [([0, 2], 3, 12), ([1], 1, 20)])
def KP : Option (Int × Int × IJ × (List Int) × Is) :=
  some (2, 1, [[[0], [0, 1], [1], [1], [], [], [], []]], [1, -1, 4], [(0, 0, 0), (2, 0, 0)])
def G2 : Option Bool :=
  some true
def Ea (s2 : List Int) : List Int → Int → Option Bool
  | [], _k =>
  G2
  | x :: aa, k =>
  ix s2 k fun x2 =>
  if x ≠ x2 then
  (some false)
  else
  (Ea s2 aa (k + 1))
def Ig (s1 s2 : List Int) : Option Bool :=
  if (s1.length : Int) ≠ (s2.length : Int) then
  (some false)
  else
  (Ea s2 s1 0)
def JU (a b : List Int) : Option Bool :=
  b1 (Ig a b) fun ok =>
  some ok
def BG : Option Bool :=
  some true
def Bc (s2 : DW) (eq : ((List Int) × (List Int)) → Option Bool) : DW → Int → Option Bool
  | [], _k =>
  BG
  | x :: aa, k =>
  ix s2 k fun x2 =>
  b1 (eq (x, x2)) fun ok =>
  if (!ok) = true then
  (some false)
  else
  (Bc s2 eq aa (k + 1))
def BJ (s1 s2 : DW) (eq : ((List Int) × (List Int)) → Option Bool) : Option Bool :=
  if (s1.length : Int) ≠ (s2.length : Int) then
  (some false)
  else
  (Bc s2 eq s1 0)
def Db : Option Bool :=
  some true
def BW (s2 : List Int) : List Int → Int → Option Bool
  | [], _k =>
  Db
  | x :: aa, k =>
  ix s2 k fun x2 =>
  if x ≠ x2 then
  (some false)
  else
  (BW s2 aa (k + 1))
def CE (s1 s2 : List Int) : Option Bool :=
  if (s1.length : Int) ≠ (s2.length : Int) then
  (some false)
  else
  (BW s2 s1 0)
def Gu (a b : DW) : Option Bool :=
  b1 (BJ a b (fun aa : (List Int) × (List Int) => CE aa.1 aa.2)) fun ok =>
  some ok
def HB : Option Bool :=
  b2 (Kp [[115, 104, 115, 104]]) fun n l =>
  b2 (OB n l 4 0) fun l2 n2 =>
  b5 (Kl) fun l3 l4 n3 n4 l5 =>
  b3 (N9 l3 l4 n3 n4 l5) fun _l6 n5 n6 =>
  b5 (KP) fun n7 n8 l7 l8 l9 =>
  b2 (HM n7 n8 l7 l8 l9) fun aa n9 =>
  if n2 = 0 then
  (if n6 = 0 then
  (if n9 = 0 then
  (b1 (JU l2 [0, 5, 9, 14]) fun ok =>
  if ok = true then
  (if n5 = 11 then
  (b1 (Gu aa [[0], [1]]) fun ab =>
  some ab)
  else
  (some false))
  else
  (some false))
  else
  (some false))
  else
  (some false))
  else
  (some false)
def Gi (metal : List Int) (at_ GB : Int) : Option (Int × Int × Int) :=
  b2 (if at_ = (metal.length : Int) then
  (some (0, (GB + 1) % 4294967296))
  else
  (some (at_, GB))) fun ab aa =>
  bv ((30011 * aa) % 4294967296) fun n =>
  b2 (if 0 < (metal.length : Int) then
  (ix metal ab fun x =>
  bv ((n + ((263 * (x % 4294967296)) % 4294967296)) % 4294967296) fun n3 =>
  gd (C9 (ab + 1)) <|
  some (n3, ab + 1))
  else
  (some (n, ab))) fun n2 ad =>
  gd (C9 (Rq 32 (R0 32 n2 (shr n2 7)) 65535)) <|
  some (Rq 32 (R0 32 n2 (shr n2 7)) 65535, ad, aa)
def BT (metal : List Int) (at_ GB n : Int) : Option (Int × Int × Int) :=
  b3 (Gi metal at_ GB) fun n2 ab aa =>
  gd (C9 (n + 1)) <|
  gd ((if n + 1 > 1 then n + 1 else 1) ≠ 0) <|
  some (Int.tmod n2 (if n + 1 > 1 then n + 1 else 1), ab, aa)
def Cy (metal : List Int) (at_ GB lo hi : Int) : Option (Int × Int × Int) :=
  gd (C9 (hi - lo)) <|
  b3 (BT metal at_ GB (hi - lo)) fun n ab aa =>
  gd (C9 (lo + n)) <|
  some (lo + n, ab, aa)
def Fs (metal : List Int) (at_ GB n : Int) : Option (Bool × Int × Int) :=
  gd (C9 (n - 1)) <|
  b3 (BT metal at_ GB (n - 1)) fun n2 ab aa =>
  some (decide (n2 = 0), ab, aa)
def CY (metal : List Int) : Nat → Int → Int → Int → (List Int) → Option ((List Int) × Int × Int)
  | 0, _k, ab, aa, BD =>
  some (BD, ab, aa)
  | ah + 1, k, ab, aa, BD =>
  b3 (BT metal ab aa k) fun n2 af ae =>
  ap BD [k] fun ad =>
  ix ad k fun x =>
  ix ad n2 fun x2 =>
  bv (ad.set (n2 : Int).toNat x) fun l =>
  ix l k fun _x3 =>
  bv (l.set (k : Int).toNat x2) fun l2 =>
  CY metal ah (k + 1) af ae l2
def Gk (metal : List Int) (at_ GB n : Int) : Option ((List Int) × Int × Int) :=
  b3 (gd (C9 0 ∧ C9 (if n > 0 then n else 0)) <|
  CY metal (Int.toNat ((if n > 0 then n else 0) - 0)) 0 at_ GB []) fun out ab aa =>
  some (out, ab, aa)
def Hi (v n : Int) : Option Int :=
  if n < 1 then
  (some 0)
  else
  (gd (n ≠ 0) <|
  if (Int.tmod v n) < 0 then
  (gd (C9 ((Int.tmod v n) + n)) <|
  some ((Int.tmod v n) + n))
  else
  (some (Int.tmod v n)))
def DS (metal : List Int) (n : Int) : Nat → Int → Int → DW → Option (Int × Int × DW)
  | 0, ad, aa, ab =>
  some (ad, aa, ab)
  | ak + 1, ad, aa, ab =>
  b3 (Gk metal ad aa n) fun l ai af =>
  b3 (BT metal ai af (l.length : Int)) fun n4 aj ah =>
  gd ((0 ≤ (0 : Int) ∧ (0 : Int) ≤ n4) ∧ n4 ≤ l.length) <|
  bv (sl l 0 n4) fun l2 =>
  ap ab [l2] fun ae =>
  DS metal n ak aj ah ae
def DY (metal : List Int) (n : Int) : Nat → Int → Int → IJ → Option (Int × Int × IJ)
  | 0, ad, ab, aa =>
  some (ad, ab, aa)
  | al + 1, ad, ab, aa =>
  b3 (b3 (gd (C9 0 ∧ C9 8) <|
  DS metal n (Int.toNat (8 - 0)) ad ab []) fun ai af aj =>
  ap aa [aj] fun t =>
  some (ai, af, t)) fun ak ah ae =>
  DY metal n al ak ah ae
def Di (metal : List Int) : Nat → Int → Int → (List Int) → Int → (List Int) → Option (Int × Int × (List Int) × (List Int))
  | 0, ad, ab, aa, _Cf, ae =>
  some (ad, ab, aa, ae)
  | au + 1, ad, ab, aa, Cf, ae =>
  b3 (Cy metal ad ab (-1) 1) fun n7 ar ak =>
  gd (C9 (Cf + n7)) <|
  b1 (Hi (Cf + n7) 8) fun n8 =>
  b3 (Cy metal ar ak (-1) 1) fun n9 al aj =>
  gd (C9 (n8 + n9)) <|
  b1 (Hi (n8 + n9) 8) fun av =>
  b3 (b3 (Fs metal al aj 3) fun ok ai af =>
  if ok = true then
  (some (ai, af, -1))
  else
  (some (ai, af, av))) fun ao ah aq =>
  ap ae [n8] fun l3 =>
  ap aa [aq] fun l4 =>
  Di metal au ao ah l4 n8 l3
def DV (metal : List Int) (n2 : Int) (ad : IJ) (real : List Int) : Nat → Int → Int → Is → Option (Is × Int × Int)
  | 0, ae, aa, ab =>
  some (ab, ae, aa)
  | ao + 1, ae, aa, ab =>
  gd (C9 ((real.length : Int) - 1)) <|
  gd (C9 ((ad.length : Int) - 1)) <|
  gd (C9 (n2 - 1)) <|
  b3 (BT metal ae aa ((real.length : Int) - 1)) fun aq aj af =>
  b3 (BT metal aj af ((ad.length : Int) - 1)) fun ar ak ah =>
  b3 (BT metal ak ah (n2 - 1)) fun au al ai =>
  ap ab [(aq, ar, au)] fun l5 =>
  DV metal n2 ad real ao al ai l5
def FL (metal : List Int) (at_ GB Ad Ab ah ak : Int) : Option (Int × Int × IJ × (List Int) × Is × (List Int) × Int × Int) :=
  b3 (Cy metal at_ GB 1 Ad) fun n ay al =>
  b3 (Cy metal ay al 1 Ab) fun n2 az ao =>
  b3 (b3 (Cy metal az ao 1 ah) fun n3 ba aq =>
  gd (C9 0 ∧ C9 n3) <|
  DY metal n (Int.toNat (n3 - 0)) ba aq []) fun bb ai ab =>
  b3 (BT metal bb ai 7) fun n5 bc ar =>
  b4 (b3 (Cy metal bc ar 1 ak) fun n6 bd au =>
  gd (C9 0 ∧ C9 n6) <|
  Di metal (Int.toNat (n6 - 0)) bd au [] n5 []) fun av ad aa real =>
  b3 (b3 (BT metal av ad 6) fun bg aw aj =>
  gd (C9 0 ∧ C9 bg) <|
  DV metal n2 ab real (Int.toNat (bg - 0)) aw aj []) fun ae ax af =>
  some (n, n2, ab, aa, ae, real, ax, af)
def IL (w : Int) : Option Bool :=
  b1 (HV w 0 7) fun ok =>
  some ok
def J8 (Ad Ab : Int) (Al : IJ) (Ak : List Int) (Az : Is) (l : List Int) : Option ((Option (Int × Int × IJ × (List Int) × Is)) × Int) :=
  b2 (I9 Ad Ab Al Ak Az) fun d n =>
  if n ≠ 0 then
  (some (none, n))
  else
  (if (l.length : Int) ≠ (Ak.length : Int) then
  (some (none, 2))
  else
  (b1 (FN l (fun aa : Int => IL aa)) fun ok =>
  if (!ok) = true then
  (some (none, 3))
  else
  (some (d, 0))))
def Dw (Ad Ab : Int) (Al : IJ) (Ak : List Int) (Az : Is) : List Int → Int → (List Bool) → Option (List Bool)
  | [], _k, g2 =>
  some g2
  | x :: aa, k, g2 =>
  b1 (GZ Ad Ab Al Ak Az g2 k x) fun a =>
  Dw Ad Ab Al Ak Az aa (k + 1) a
def Hy (Ad Ab : Int) (Al : IJ) (Ak : List Int) (Az : Is) (Fk : List Int) : Option (List Bool) :=
  b1 (Dw Ad Ab Al Ak Az Fk 0 (List.replicate 24 false)) fun g =>
  some g
def Dd (a : List Bool) (k : Int) : Nat → Int → DW → Option DW
  | 0, _k2, aa =>
  some aa
  | ad + 1, k2, aa =>
  gd (0 ≤ k ∧ k < 6) <|
  gd (0 ≤ k2 ∧ k2 < 4) <|
  ix a (k * 4 + k2) fun x =>
  if x = true then
  (ix aa k fun x2 =>
  ap x2 [k2] fun l3 =>
  bv (aa.set (k : Int).toNat l3) fun ab =>
  Dd a k ad (k2 + 1) ab)
  else
  (Dd a k ad (k2 + 1) aa)
def D1 (Ab : Int) (a : List Bool) : Nat → Int → DW → Option DW
  | 0, _k, BD =>
  some BD
  | ab + 1, k, BD =>
  b1 (gd (C9 0 ∧ C9 Ab) <|
  Dd a k (Int.toNat (Ab - 0)) 0 BD) fun aa =>
  D1 Ab a ab (k + 1) aa
def Hf (Ad Ab : Int) (Al : IJ) (Ak : List Int) (Az : Is) (l : List Int) : Option (DW × Int) :=
  b2 (J8 Ad Ab Al Ak Az l) fun d n =>
  if n ≠ 0 then
  (some ([], n))
  else
  (b5 d fun Bp ab ad aa ae =>
  b1 (Hy Bp ab ad aa ae l) fun a =>
  gd (0 ≤ Ad ∧ Ad ≤ 1048576) <|
  bv (List.replicate (Ad : Int).toNat [] : DW) fun l2 =>
  b1 (gd (C9 0 ∧ C9 (l2.length : Int)) <|
  D1 Ab a (Int.toNat ((l2.length : Int) - 0)) 0 l2) fun out =>
  some (out, 0))
def IH : List Int → Int → Option Int
  | [], n3 =>
  some n3
  | x :: aa, n3 =>
  IH aa (if x > n3 then x else n3)
def K1 (n : Int) (l : List Int) : Option Int :=
  b1 (IH l n) fun n2 =>
  some n2
def IY (n lo hi : Int) : Option Bool :=
  if lo ≤ n then
  (some (decide (n ≤ hi)))
  else
  (some false)
def LR (l : List Int) : Option (List Int) :=
  ix l 0 fun x =>
  ix l 1 fun x2 =>
  some [if x2 < x then x2 else x, if x2 > x then x2 else x]
def EX : Option Int :=
  some (-1)
def C0 (f : (List Int) → Option Bool) : DW → Int → Option Int
  | [], _k =>
  EX
  | x :: aa, k =>
  b1 (f x) fun ok =>
  if ok = true then
  (some k)
  else
  (C0 f aa (k + 1))
def FH (s_ : DW) (f : (List Int) → Option Bool) : Option Int :=
  C0 f s_ 0
def EY (s_ : DW) (f : (List Int) → Option Bool) : Option Bool :=
  b1 (FH s_ f) fun n =>
  some (decide (0 ≤ n))
def HY (x : List Int) (holds : (List Int) → Option Bool) : Option Bool :=
  b1 (holds x) fun ok =>
  some (!ok)
def IV (l : DW) (holds : (List Int) → Option Bool) : Option Bool :=
  b1 (EY l (fun aa : (List Int) => HY aa holds)) fun ok =>
  some (!ok)
def Ey (Ad : Int) (_AZ : DW) (_Ab : List (Int × Bool)) (_aa : DW) (x : Int) : Option Bool :=
  gd (C9 (Ad - 1)) <|
  b1 (IY x 0 (Ad - 1)) fun ok =>
  some ok
def Hm (l : List Int) : Option Bool :=
  ix l 0 fun x =>
  ix l 1 fun x2 =>
  some (decide (x ≠ x2))
def Hn (l : List Int) (Ad : Int) (AZ : DW) (Ab : List (Int × Bool)) (aa : DW) : Option Bool :=
  ix l 0 fun x =>
  b1 (Ey Ad AZ Ab aa x) fun ok =>
  if ok = true then
  (ix l 1 fun x2 =>
  b1 (Ey Ad AZ Ab aa x2) fun ab =>
  some ab)
  else
  (some false)
def IC : Option Int :=
  some 0
def Fo : DW → (List ((List Int) × Bool)) → Option Int
  | [], _met =>
  IC
  | x :: ab, met =>
  b1 (LR x) fun a =>
  gd (∀ x_ ∈ a, C9 x_) <|
  if ((Bz met a).getD false) = true then
  (some 5)
  else
  (b1 (LR x) fun a2 =>
  gd (∀ x_ ∈ a2, C9 x_) <|
  bv (JL met a2 true) fun aa =>
  Fo ab aa)
def Iu (Ad : Int) (AZ : DW) (Ab : List (Int × Bool)) (aa : DW) : Option Int :=
  b1 (IV AZ (fun ab : (List Int) => Hn ab Ad AZ Ab aa)) fun ok =>
  if (!ok) = true then
  (some 1)
  else
  (b1 (IV AZ (fun ab : (List Int) => Hm ab)) fun ad =>
  if (!ad) = true then
  (some 8)
  else
  (Fo AZ []))
def CU : Option Int :=
  some (-1)
def BR (f : (Int × Bool) → Option Bool) : List (Int × Bool) → Int → Option Int
  | [], _k =>
  CU
  | x :: aa, k =>
  b1 (f (x.1, x.2)) fun ok =>
  if ok = true then
  (some k)
  else
  (BR f aa (k + 1))
def Df (s_ : List (Int × Bool)) (f : (Int × Bool) → Option Bool) : Option Int :=
  BR f s_ 0
def CV (s_ : List (Int × Bool)) (f : (Int × Bool) → Option Bool) : Option Bool :=
  b1 (Df s_ f) fun n =>
  some (decide (0 ≤ n))
def GG (after : Int) (_back : Bool) (aa : Int) (_ab : Bool) : Option Bool :=
  some (decide (after = aa))
def Ia : Option Int :=
  some 0
def EV (Ab : List (Int × Bool)) : List (Int × Bool) → Int → Option Int
  | [], _k2 =>
  Ia
  | x2 :: ad, k2 =>
  b1 (if x2.1 ≠ (-1) then
  (gd ((0 ≤ (0 : Int) ∧ (0 : Int) ≤ k2) ∧ k2 ≤ Ab.length) <|
  bv (sl Ab 0 k2) fun aa =>
  b1 (CV aa (fun ab : (Int × Bool) => GG ab.1 ab.2 x2.1 x2.2)) fun ae =>
  some ae)
  else
  (some false)) fun k3 =>
  if k3 = true then
  (some 5)
  else
  (EV Ab ad (k2 + 1))
def Ii (Ab : List (Int × Bool)) : Option Int :=
  EV Ab Ab 0
def D9 (Ab : List (Int × Bool)) : List (Int × Bool) → Int → Option Int
  | [], _k =>
  Ii Ab
  | x :: aa, k =>
  gd (C9 (k - 1)) <|
  b1 (IY x.1 (-1) (k - 1)) fun ok =>
  if (!ok) = true then
  (some 1)
  else
  (D9 Ab aa (k + 1))
def HT (_Ad : Int) (_AZ : DW) (Ab : List (Int × Bool)) (_aa : DW) : Option Int :=
  D9 Ab Ab 0
def G1 (x : List Int) (holds : (List Int) → Option Bool) : Option Bool :=
  b1 (holds x) fun ok =>
  some (!ok)
def E3 (l : DW) (holds : (List Int) → Option Bool) : Option Bool :=
  b1 (CG l (fun aa : (List Int) => G1 aa holds)) fun ok =>
  some (!ok)
def Gl (x : Int) (holds : Int → Option Bool) : Option Bool :=
  b1 (holds x) fun ok =>
  some (!ok)
def HA (l : List Int) (holds : Int → Option Bool) : Option Bool :=
  b1 (CC l (fun aa : Int => Gl aa holds)) fun ok =>
  some (!ok)
def FG : Option Bool :=
  some true
def BI (x : List Int) : Nat → Int → Option Bool
  | 0, _ => none
  | aa + 1, i =>
  if 0 < i then
  (ix x i fun x2 =>
  gd (C9 (i - 1)) <|
  ix x (i - 1) fun x3 =>
  b1 (It x2 x3) fun ok =>
  if ok = true then
  (some false)
  else
  (gd (C9 (i - 1)) <|
  BI x aa (i - 1)))
  else
  FG
def Dm (x : List Int) : Option Bool :=
  gd (C9 ((x.length : Int) - 1)) <|
  BI x FU ((x.length : Int) - 1)
def C4 (k : Int) : Nat → (List Int) → Int → Int → Option ((List Int) × Int)
  | 0, _, _, _ => none
  | ad + 1, ab, k3, aa =>
  if aa < ((ab.length - Int.toNat k : Nat) : Int) then
  (ix (ab.drop (Int.toNat k)) aa fun x3 =>
  gd (C9 (aa - 1)) <|
  ix (ab.drop (Int.toNat k)) (aa - 1) fun x4 =>
  if x3 ≠ x4 then
  (ix ab k3 fun _x5 =>
  bv (ab.set (k3 : Int).toNat x3) fun ae =>
  gd (C9 (k3 + 1)) <|
  gd (C9 (aa + 1)) <|
  C4 k ad ae (k3 + 1) (aa + 1))
  else
  (gd (C9 (aa + 1)) <|
  C4 k ad ab k3 (aa + 1)))
  else
  (some (ab, k3))
def FZ (k : Int) (aa : Int → Option (List Int)) : Option (List Int) :=
  aa (k + 1)
def Ga (s_ : List Int) : Option (List Int) :=
  some s_
def C3 (s_ : List Int) : Nat → Int → Option (List Int)
  | 0, _k =>
  Ga s_
  | ad + 1, k =>
  ix s_ k fun x =>
  gd (C9 (k - 1)) <|
  ix s_ (k - 1) fun x2 =>
  if x = x2 then
  (gd (0 ≤ k ∧ k ≤ (s_.length : Int)) <|
  b2 (C4 k FU s_ k 1) fun aa k2 =>
  gd (0 ≤ k2 ∧ k2 ≤ (aa.length : Int)) <|
  bv (aa.take (Int.toNat k2) ++ List.replicate (aa.length - Int.toNat k2) 0 : List Int) fun ab =>
  gd ((0 ≤ (0 : Int) ∧ (0 : Int) ≤ k2) ∧ k2 ≤ ab.length) <|
  bv (sl ab 0 k2) fun ae =>
  some ae)
  else
  FZ k (C3 s_ ad)
def Ep (s_ : List Int) : Option (List Int) :=
  if (s_.length : Int) < 2 then
  (some s_)
  else
  (gd (C9 1 ∧ C9 (s_.length : Int)) <|
  C3 s_ (Int.toNat ((s_.length : Int) - 1)) 1)
def Hr (l : List Int) : Option Bool :=
  b1 (Dm l) fun ok =>
  if ok = true then
  (b1 (CZ l) fun l2 =>
  b1 (Ep l2) fun l3 =>
  some (decide ((l3.length : Int) = (l.length : Int))))
  else
  (some false)
def Iq (l : List Int) (Ad : Int) (AZ : DW) (Ab : List (Int × Bool)) (aa : DW) : Option Bool :=
  b1 (HA l (fun ab : Int => Ey Ad AZ Ab aa ab)) fun ok =>
  some ok
def KJ (Ad : Int) (AZ : DW) (Ab : List (Int × Bool)) (aa : DW) : Option Int :=
  b1 (b1 (IY Ad 1 10) fun ok =>
  if (!ok) = true then
  (some true)
  else
  (if 15 < (AZ.length : Int) then
  (some true)
  else
  (b1 (IY (Ab.length : Int) 1 8) fun ad =>
  if (!ad) = true then
  (some true)
  else
  (b1 (IY (aa.length : Int) 1 6) fun ae =>
  some (!ae))))) fun k =>
  if k = true then
  (some 2)
  else
  (b1 (Iu Ad AZ Ab aa) fun n =>
  if n ≠ 0 then
  (some n)
  else
  (b1 (HT Ad AZ Ab aa) fun n2 =>
  if n2 ≠ 0 then
  (some n2)
  else
  (b1 (E3 aa (fun ab : (List Int) => Iq ab Ad AZ Ab aa)) fun af =>
  if (!af) = true then
  (some 1)
  else
  (b1 (E3 aa (fun ab : (List Int) => Hr ab)) fun ah =>
  if (!ah) = true then
  (some 4)
  else
  (some 0)))))
def GW : DW → (List ((List Int) × Bool)) → Option (List ((List Int) × Bool))
  | [], aa =>
  some aa
  | x :: ab, aa =>
  b1 (LR x) fun a =>
  gd (∀ x_ ∈ a, C9 x_) <|
  bv (JL aa a true) fun met =>
  GW ab met
def FE : List (Int × Bool) → Int → (List Int) → Option (List Int)
  | [], _k2, aa =>
  some aa
  | x2 :: ab, k2, aa =>
  ix aa k2 fun _x3 =>
  bv (aa.set (k2 : Int).toNat k2) fun ws =>
  if x2.1 ≠ (-1) then
  (ix ws x2.1 fun x4 =>
  ix ws k2 fun _x5 =>
  bv (ws.set (k2 : Int).toNat x4) fun ad =>
  FE ab (k2 + 1) ad)
  else
  (FE ab (k2 + 1) ws)
def GO (ab : List Int) (k3 : Int) : List (Int × Bool) → Int → (List Int) → Option (List Int)
  | [], _k4, aa =>
  some aa
  | _x7 :: ad, k4, aa =>
  ix ab k4 fun x8 =>
  ix ab k3 fun x9 =>
  if x8 = x9 then
  (ix aa k3 fun ae =>
  b1 (K1 ae [k4]) fun n2 =>
  bv (aa.set (k3 : Int).toNat n2) fun af =>
  GO ab k3 ad (k4 + 1) af)
  else
  (GO ab k3 ad (k4 + 1) aa)
def G5 (Ab : List (Int × Bool)) (ab : List Int) : List (Int × Bool) → Int → (List Int) → Option (List Int)
  | [], _k3, aa =>
  some aa
  | _x6 :: ae, k3, aa =>
  b1 (GO ab k3 Ab 0 aa) fun ad =>
  G5 Ab ab ae (k3 + 1) ad
def J1 (Ad : Int) (AZ : DW) (Ab : List (Int × Bool)) (ab : DW) : Option (Int × DW × (List (Int × Bool)) × DW × (List (Int × Int)) × (List ((List Int) × Bool)) × (List Int) × (List Int) × Int) :=
  b1 (KJ Ad AZ Ab ab) fun n =>
  gd (¬ (n ≠ 0)) <|
  b1 (GW AZ []) fun ad =>
  b1 (FE Ab 0 (List.replicate 8 0)) fun aa =>
  b1 (G5 Ab aa Ab 0 (List.replicate 8 0)) fun ae =>
  some (Ad, AZ, Ab, ab, [], ad, aa, ae, 0)
def DG : Option Int :=
  some (-1)
def BF (f : (Int × Int) → Option Bool) : List (Int × Int) → Int → Option Int
  | [], _k =>
  DG
  | x :: aa, k =>
  b1 (f (x.1, x.2)) fun ok =>
  if ok = true then
  (some k)
  else
  (BF f aa (k + 1))
def C8 (s_ : List (Int × Int)) (f : (Int × Int) → Option Bool) : Option Int :=
  BF f s_ 0
def B8 (s_ : List (Int × Int)) (f : (Int × Int) → Option Bool) : Option Bool :=
  b1 (C8 s_ f) fun n =>
  some (decide (0 ≤ n))
def GV (Ba DK : Int) (holds : (Int × Int) → Option Bool) : Option Bool :=
  b1 (holds (Ba, DK)) fun ok =>
  some (!ok)
def GJ (l : List (Int × Int)) (holds : (Int × Int) → Option Bool) : Option Bool :=
  b1 (B8 l (fun aa : (Int × Int) => GV aa.1 aa.2 holds)) fun ok =>
  some (!ok)
def Ip (_Ad : Int) (_AZ : DW) (Ab : List (Int × Bool)) (_aa : DW) (x : Int) : Option Bool :=
  gd (C9 ((Ab.length : Int) - 1)) <|
  b1 (IY x 0 ((Ab.length : Int) - 1)) fun ok =>
  some ok
def IX (_Ad : Int) (_AZ : DW) (_Ab : List (Int × Bool)) (aa : DW) (x : Int) : Option Bool :=
  gd (C9 ((aa.length : Int) - 1)) <|
  b1 (IY x 0 ((aa.length : Int) - 1)) fun ok =>
  some ok
def HK (Ad : Int) (AZ : DW) (Ab : List (Int × Bool)) (aa : DW) (_Az : List (Int × Int)) (_C5 : List ((List Int) × Bool)) (_BQ _last : List Int) (Ba DK : Int) : Option Bool :=
  b1 (Ip Ad AZ Ab aa Ba) fun ok =>
  if ok = true then
  (b1 (IX Ad AZ Ab aa DK) fun ab =>
  some ab)
  else
  (some false)
def KI (Ad : Int) (AZ : DW) (Ab : List (Int × Bool)) (ae : DW) (l : List (Int × Int)) : Option ((Option (Int × DW × (List (Int × Bool)) × DW × (List (Int × Int)) × (List ((List Int) × Bool)) × (List Int) × (List Int))) × Int) :=
  b9 (J1 Ad AZ Ab ae) fun Bp C5 aa ab Az ad BQ last n =>
  gd (¬ (n ≠ 0)) <|
  gd (¬ (16 < (l.length : Int))) <|
  b1 (GJ l (fun af : (Int × Int) => HK Bp C5 aa ab Az ad BQ last af.1 af.2)) fun ok =>
  gd ((!ok) = false) <|
  some (some (Bp, C5, aa, ab, l, ad, BQ, last), 0)
def J6 (Ad : Int) (AZ : DW) (Ab : List (Int × Bool)) (aa : DW) (l : List (Int × Int)) (EP : Int) : Option ((Option (Int × DW × (List (Int × Bool)) × DW × (List (Int × Int)) × (List ((List Int) × Bool)) × (List Int) × (List Int))) × Int) :=
  b2 (KI Ad AZ Ab aa l) fun d n =>
  b1 (b1 (if n = 0 then
  (b1 (IY EP 0 12) fun ok =>
  some (!ok))
  else
  (some false)) fun k =>
  if k = true then
  (some 3)
  else
  (some n)) fun e_ =>
  gd (¬ (e_ ≠ 0)) <|
  some (d, 0)
def CO (BQ last now : List Int) (k : Int) : List (Int × Bool) → Int → (List (Int × Int)) → Option (List (Int × Int))
  | [], _k2, aa =>
  some aa
  | _x :: ad, k2, aa =>
  b1 (ix BQ k2 fun x2 =>
  gd (0 ≤ k ∧ k < 10) <|
  gd (0 ≤ x2 ∧ x2 < 8) <|
  ix now (k * 8 + x2) fun x3 =>
  if x3 = k2 then
  (ix last k2 fun x4 =>
  some (decide (x4 ≠ k2)))
  else
  (some false)) fun k3 =>
  if k3 = true then
  (ap aa [(k, k2)] fun ab =>
  CO BQ last now k ad (k2 + 1) ab)
  else
  (CO BQ last now k ad (k2 + 1) aa)
def DT (Ab : List (Int × Bool)) (BQ last now : List Int) : Nat → Int → (List (Int × Int)) → Option (List (Int × Int))
  | 0, _k, BD =>
  some BD
  | ab + 1, k, BD =>
  b1 (CO BQ last now k Ab 0 BD) fun aa =>
  DT Ab BQ last now ab (k + 1) aa
def JD (Ad : Int) (_AZ : DW) (Ab : List (Int × Bool)) (_aa : DW) (_Az : List (Int × Int)) (_C5 : List ((List Int) × Bool)) (BQ last now : List Int) : Option (List (Int × Int)) :=
  b1 (gd (C9 0 ∧ C9 Ad) <|
  DT Ab BQ last now (Int.toNat (Ad - 0)) 0 []) fun out =>
  some out
def Hx (_Ad : Int) (_AZ : DW) (_Ab : List (Int × Bool)) (aa : DW) (_Az : List (Int × Int)) (_C5 : List ((List Int) × Bool)) (_BQ _last : List Int) (DR DK : Int) : Option Bool :=
  ix aa DK fun x =>
  b1 (Bu x DR) fun ok =>
  some ok
def FQ (k : Int) : Nat → Int → (List Int) → Option (List Int)
  | 0, _k2, aa =>
  some aa
  | ad + 1, k2, aa =>
  gd (0 ≤ k ∧ k < 10) <|
  gd (0 ≤ k2 ∧ k2 < 8) <|
  ix aa (k * 8 + k2) fun _x =>
  bv (aa.set (k * 8 + k2 : Int).toNat (-1)) fun ab =>
  FQ k ad (k2 + 1) ab
def EI : Nat → Int → (List Int) → Option (List Int)
  | 0, _k, BD =>
  some BD
  | ab + 1, k, BD =>
  b1 (gd (C9 0 ∧ C9 8) <|
  FQ k (Int.toNat (8 - 0)) 0 BD) fun aa =>
  EI ab (k + 1) aa
def Du (Ad : Int) (AZ : DW) (Ab : List (Int × Bool)) (aa : DW) (Az : List (Int × Int)) (C5 : List ((List Int) × Bool)) (BQ last : List Int) (k3 : Int) : List (Int × Int) → (List Int) → Option (List Int)
  | [], ab =>
  some ab
  | x2 :: ad, ab =>
  b1 (Hx Ad AZ Ab aa Az C5 BQ last k3 x2.2) fun ok =>
  if ok = true then
  (ix BQ x2.1 fun x3 =>
  gd (0 ≤ k3 ∧ k3 < 10) <|
  gd (0 ≤ x3 ∧ x3 < 8) <|
  ix ab (k3 * 8 + x3) fun x4 =>
  gd (0 ≤ k3 ∧ k3 < 10) <|
  b1 (K1 x4 [x2.1]) fun n =>
  gd (0 ≤ x3 ∧ x3 < 8) <|
  bv (ab.set (k3 * 8 + x3 : Int).toNat n) fun l =>
  Du Ad AZ Ab aa Az C5 BQ last k3 ad l)
  else
  (Du Ad AZ Ab aa Az C5 BQ last k3 ad ab)
def Dt (Ad : Int) (AZ : DW) (Ab : List (Int × Bool)) (aa : DW) (Az : List (Int × Int)) (C5 : List ((List Int) × Bool)) (BQ last : List Int) : Nat → Int → (List Int) → Option (List Int)
  | 0, _k3, ab =>
  some ab
  | ae + 1, k3, ab =>
  b1 (Du Ad AZ Ab aa Az C5 BQ last k3 Az ab) fun ad =>
  Dt Ad AZ Ab aa Az C5 BQ last ae (k3 + 1) ad
def IW (Ad : Int) (AZ : DW) (Ab : List (Int × Bool)) (aa : DW) (Az : List (Int × Int)) (C5 : List ((List Int) × Bool)) (BQ last : List Int) : Option (List Int) :=
  b1 (gd (C9 0 ∧ C9 10) <|
  EI (Int.toNat (10 - 0)) 0 (List.replicate 80 0)) fun out =>
  b1 (gd (C9 0 ∧ C9 Ad) <|
  Dt Ad AZ Ab aa Az C5 BQ last (Int.toNat (Ad - 0)) 0 out) fun ab =>
  some ab
def FM (EP : Int) : Nat → Option Unit
  | 0 => none
  | _aa + 1 =>
  gd (¬ (0 < EP)) <|
  some ()
def Ht (Ad : Int) (AZ : DW) (Ab : List (Int × Bool)) (aa : DW) (Az : List (Int × Int)) (C5 : List ((List Int) × Bool)) (BQ last : List Int) (EP : Int) : Option (List Int) :=
  b1 (IW Ad AZ Ab aa Az C5 BQ last) fun a =>
  b0 (FM EP FU) <|
  some a
def JW (Ad : Int) (AZ : DW) (Ab : List (Int × Bool)) (af : DW) (Az : List (Int × Int)) (EP : Int) : Option ((List (Int × Int)) × Int) :=
  b2 (J6 Ad AZ Ab af Az EP) fun d n =>
  gd (¬ (n ≠ 0)) <|
  b8 d fun Bp C5 aa ab ad ae BQ last =>
  b1 (Ht Bp C5 aa ab ad ae BQ last EP) fun a =>
  b1 (JD Bp C5 aa ab ad ae BQ last a) fun l =>
  some (l, 0)
def Eh : Option Int :=
  some (-1)
def BO (DR Ba : Int) : List (Int × Int) → Int → Option Int
  | [], _k =>
  Eh
  | x :: aa, k =>
  if DR = x.1 ∧ Ba = x.2 then
  (some k)
  else
  (BO DR Ba aa (k + 1))
def DH (s_ : List (Int × Int)) (DR Ba : Int) : Option Int :=
  BO DR Ba s_ 0
def B5 (s_ : List (Int × Int)) (DR Ba : Int) : Option Bool :=
  b1 (DH s_ DR Ba) fun n =>
  some (decide (0 ≤ n))
def Gn (DR Ba : Int) (_heard : Bool) (Ad Ab : Int) (Al : IJ) (Ak : List Int) (Az : Is) : Option Int :=
  b1 (b1 (Gc Ad Ab Al Ak Az DR) fun ok =>
  if (!ok) = true then
  (some true)
  else
  (b1 (EG Ad Ab Al Ak Az Ba) fun aa =>
  some (!aa))) fun k =>
  if k = true then
  (some 1)
  else
  (some 0)
def I5 : Option Int :=
  some 0
def D4 (Ad Ab : Int) (Al : IJ) (Ak : List Int) (Az : Is) : List (Int × Int × Bool) → Option Int
  | [] =>
  I5
  | x :: aa =>
  b1 (Gn x.1 x.2.1 x.2.2 Ad Ab Al Ak Az) fun n2 =>
  if n2 ≠ 0 then
  (some n2)
  else
  (D4 Ad Ab Al Ak Az aa)
def HF (Ad Ab : Int) (Al : IJ) (Ak : List Int) (Az : Is) (l : List (Int × Int × Bool)) : Option Int :=
  b1 (I0 Ad Ab Al Ak Az) fun n =>
  if n ≠ 0 then
  (some n)
  else
  (if 8 < (l.length : Int) then
  (some 2)
  else
  (D4 Ad Ab Al Ak Az l))
def Ll (Ad Ab : Int) (Al : IJ) (Ak : List Int) (Az : Is) (Ce : List (Int × Int × Bool)) : Option ((List ((List Bool) × (List Int))) × Int) :=
  b1 (HF Ad Ab Al Ak Az Ce) fun n =>
  if n ≠ 0 then
  (some ([], n))
  else
  (b3 (JT Ad Ab Al Ak Az) fun _d l n2 =>
  some (l, n2))
def Gm (DR Ba : Int) (heard : Bool) (g : List Bool) : Option Bool :=
  gd (0 ≤ DR ∧ DR < 6) <|
  gd (0 ≤ Ba ∧ Ba < 4) <|
  ix g (DR * 4 + Ba) fun x =>
  some (decide (x = heard))
def EN (g : List Bool) : List (Int × Int × Bool) → Int → (List Int) → Option (List Int)
  | [], _k, BD =>
  some BD
  | x :: ab, k, BD =>
  b1 (Gm x.1 x.2.1 x.2.2 g) fun ok =>
  if (!ok) = true then
  (ap BD [k] fun aa =>
  EN g ab (k + 1) aa)
  else
  (EN g ab (k + 1) BD)
def Lg (Ce : List (Int × Int × Bool)) (g : List Bool) : Option (List Int) :=
  b1 (EN g Ce 0 []) fun out =>
  some out
def JE : Option (List Int) :=
  some []
def DX (met : (List Bool) → Option Bool) : List ((List Bool) × (List Int)) → Option (List Int)
  | [] =>
  JE
  | x :: aa =>
  b1 (met x.1) fun ok =>
  if ok = true then
  (gd (x.2 ≠ []) <|
  some x.2)
  else
  (DX met aa)
def ET (met : (List Bool) → Option Bool) (l : List ((List Bool) × (List Int))) : Option (List Int) :=
  DX met l
def Ez (g : List Bool) (Ce : List (Int × Int × Bool)) : Option Bool :=
  b1 (Lg Ce g) fun l =>
  some (decide ((l.length : Int) = 0))
def EM (Ad Ab : Int) (Al : IJ) (Ak : List Int) (Az : Is) (Ce : List (Int × Int × Bool)) : Option ((List Int) × Int) :=
  b2 (Ll Ad Ab Al Ak Az Ce) fun l n =>
  if n ≠ 0 then
  (some ([], n))
  else
  (b1 (ET (fun aa : (List Bool) => Ez aa Ce) l) fun l2 =>
  if l2 = [] then
  (some ([], 6))
  else
  (some (l2, 0)))
def BZ (s_ : Is) : Option Is :=
  Qe (s_ = []) (some []) (ap ([] : Is) s_ fun l =>
  some l)
def GX (h : Int) (g : List Bool) (x : Int) : Option Bool :=
  gd (0 ≤ h ∧ h < 6) <|
  gd (0 ≤ x ∧ x < 4) <|
  ix g (h * 4 + x) fun x2 =>
  some x2
def D0 (g : List Bool) (x : List Int) (x2 : Int) : Option Bool :=
  b1 (FN x (fun aa : Int => GX aa g x2)) fun ok =>
  some (!ok)
def De (hour Ba : Int) : List Int → Is → Option Is
  | [], aa =>
  some aa
  | x :: ab, aa =>
  ap aa [(hour, x, Ba)] fun l3 =>
  De hour Ba ab l3
def JO (BD : List Int) (aa : Bool) : Option (Bool × (List Int) × Bool) :=
  some (false, BD, aa)
def DB (l : List Int) (many Ad Ab : Int) (Al : IJ) (Ak : List Int) (Az : Is) (hour Ba : Int) (Bp : List Int) (ae : (List Int) → Int → Int → Int → Int → IJ → (List Int) → Is → Int → Int → (List Int) → (List Int) → Bool → Option (Bool × (List Int) × Bool)) : Nat → Int → (List Int) → Bool → Option (Bool × (List Int) × Bool)
  | 0, _s_, ad, aa =>
  JO ad aa
  | ah + 1, s_, ad, aa =>
  gd (C9 (many - 1)) <|
  b1 (CZ l) fun l6 =>
  ap l6 [s_] fun l7 =>
  b3 (ae l7 (s_ + 1) (many - 1) Ad Ab Al Ak Az hour Ba Bp ad aa) fun ok af ab =>
  if ok = true then
  (some (true, af, ab))
  else
  (DB l many Ad Ab Al Ak Az hour Ba Bp ae ah (s_ + 1) af ab)
def Iv (l : List Int) (from_ many Ad Ab : Int) (Al : IJ) (Ak : List Int) (Az : Is) (hour Ba : Int) (Bp out : List Int) (found : Bool) (aa : (List Int) → Int → Int → Int → Int → IJ → (List Int) → Is → Int → Int → (List Int) → (List Int) → Bool → Option (Bool × (List Int) × Bool)) : Option (Bool × (List Int) × Bool) :=
  gd (C9 from_ ∧ C9 (Al.length : Int)) <|
  DB l many Ad Ab Al Ak Az hour Ba Bp aa (Int.toNat ((Al.length : Int) - from_)) from_ out found
def IN (ab : (List Int) → Int → Int → Int → Int → IJ → (List Int) → Is → Int → Int → (List Int) → (List Int) → Bool → Option (Bool × (List Int) × Bool)) (l : List Int) (from_ many Ad Ab : Int) (Al : IJ) (Ak : List Int) (Az : Is) (hour Ba : Int) (Bp out : List Int) (found : Bool) : Option (Bool × (List Int) × Bool) :=
  if many = 0 then
  (b1 (BZ Az) fun l2 =>
  b1 (De hour Ba l l2) fun aa =>
  b1 (Dg Ad Ab Al Ak aa) fun l4 =>
  b1 (ET (fun ad : (List Bool) => D0 ad Bp Ba) l4) fun l5 =>
  if l5 = [] then
  (some (true, l, true))
  else
  (some (found, out, found)))
  else
  Iv l from_ many Ad Ab Al Ak Az hour Ba Bp out found ab
def DI : Nat → (List Int) → Int → Int → Int → Int → IJ → (List Int) → Is → Int → Int → (List Int) → (List Int) → Bool → Option (Bool × (List Int) × Bool)
  | 0, _, _, _, _, _, _, _, _, _, _, _, _, _ => none
  | fu + 1, l, from_, many, Ad, Ab, Al, Ak, Az, hour, Ba, Bp, out, found =>
  IN (DI fu) l from_ many Ad Ab Al Ak Az hour Ba Bp out found
def Fx (Ad Ab : Int) (Al : IJ) (Ak : List Int) (Az : Is) (Ba hour : Int) (Bp : List Int) : Nat → Int → (List Int) → Bool → Option ((List Int) × Bool)
  | 0, _k2, BD, aa =>
  some (BD, aa)
  | ae + 1, k2, BD, aa =>
  b3 (DI FU [] 0 k2 Ad Ab Al Ak Az hour Ba Bp BD aa) fun af ad ab =>
  if af = true then
  (some (ad, ab))
  else
  (Fx Ad Ab Al Ak Az Ba hour Bp ae (k2 + 1) ad ab)
def KM (Ad Ab : Int) (Al : IJ) (Ak : List Int) (Az : Is) (Ba hour : Int) (Bp : List Int) : Option ((List Int) × Int) :=
  b1 (I0 Ad Ab Al Ak Az) fun n =>
  if n ≠ 0 then
  (some ([], n))
  else
  (b1 (b1 (EG Ad Ab Al Ak Az Ba) fun ok =>
  if (!ok) = true then
  (some true)
  else
  (b1 (GP Ad Ab Al Ak Az hour) fun aa =>
  some (!aa))) fun k =>
  if k = true then
  (some ([], 1))
  else
  (b1 (GU Ad Ab Al Ak Az Bp) fun n2 =>
  if n2 ≠ 0 then
  (some ([], n2))
  else
  (b3 (JT Ad Ab Al Ak Az) fun _d _l n3 =>
  if n3 ≠ 0 then
  (some ([], n3))
  else
  (b2 (gd (C9 ((Al.length : Int) + 1)) <|
  gd (C9 0 ∧ C9 ((Al.length : Int) + 1)) <|
  Fx Ad Ab Al Ak Az Ba hour Bp (Int.toNat (((Al.length : Int) + 1) - 0)) 0 [] false) fun out found =>
  if (!found) = true then
  (some ([], 6))
  else
  (some (out, 0))))))
def FC (l : List Int) : Option (List Int) :=
  gd (0 ≤ (l.length : Int) ∧ (l.length : Int) ≤ 1048576) <|
  bv (List.replicate ((l.length : Int) : Int).toNat 0 : List Int) fun l2 =>
  bv (YY l2 l) fun out =>
  some out
def Cb : DW → Int → DW → Option DW
  | [], _k, BD =>
  some BD
  | x :: ab, k, BD =>
  b1 (FC x) fun l3 =>
  ix BD k fun _x2 =>
  bv (BD.set (k : Int).toNat l3) fun aa =>
  Cb ab (k + 1) aa
def ER (l : DW) : Option DW :=
  gd (0 ≤ (l.length : Int) ∧ (l.length : Int) ≤ 1048576) <|
  bv (List.replicate ((l.length : Int) : Int).toNat [] : DW) fun l2 =>
  b1 (Cb l 0 l2) fun out =>
  some out
def GY (l : Is) : Option Is :=
  gd (0 ≤ (l.length : Int) ∧ (l.length : Int) ≤ 1048576) <|
  bv (List.replicate ((l.length : Int) : Int).toNat (0, 0, 0) : Is) fun l2 =>
  bv (YY l2 l) fun out =>
  some out
def DF : IJ → Int → IJ → Option IJ
  | [], _k, aa =>
  some aa
  | x :: ad, k, aa =>
  b1 (ER x) fun l2 =>
  ix aa k fun _x2 =>
  bv (aa.set (k : Int).toNat l2) fun ab =>
  DF ad (k + 1) ab
def IM (Ad Ab : Int) (Al : IJ) (Ak : List Int) (Az : Is) : Option (Int × Int × IJ × (List Int) × Is) :=
  gd (0 ≤ (Al.length : Int) ∧ (Al.length : Int) ≤ 1048576) <|
  bv (List.replicate ((Al.length : Int) : Int).toNat [] : IJ) fun l =>
  b1 (DF Al 0 l) fun aa =>
  b1 (FC Ak) fun l3 =>
  b1 (GY Az) fun l4 =>
  some (Ad, Ab, aa, l3, l4)
def Fu (Ad Ab : Int) (Al : IJ) (Ak : List Int) (Az : Is) (DR Ba : Int) (heard : Bool) : Option ((List Int) × Int) :=
  b2 (EM Ad Ab Al Ak Az [(DR, Ba, heard)]) fun l n =>
  some (l, n)
def Hq (Ad Ab : Int) (Al : IJ) (Ak : List Int) (Az : Is) (DR Ba : Int) (heard : Bool) : Option (Bool × Int) :=
  b2 (Fu Ad Ab Al Ak Az DR Ba heard) fun _l n =>
  if n = 0 then
  (some (false, 0))
  else
  (if n = 6 then
  (some (true, 0))
  else
  (some (false, n)))
def EH (k2 : Int) (ad : Int → DW → (List (Int × Int)) → Option Bool) (aa : DW) (ab : List (Int × Int)) : Option Bool :=
  ad (k2 + 1) aa ab
def Dv (k2 : Int) (n5 : DW) (ad : Int → DW → (List (Int × Int)) → Option Bool) : List Int → (List (Int × Int)) → Option Bool
  | [], aa =>
  EH k2 ad n5 aa
  | x2 :: ae, aa =>
  b1 (if x2 ≠ 0 then
  (some (decide (x2 ≠ 1)))
  else
  (some false)) fun k5 =>
  if k5 = true then
  (some false)
  else
  (gd (C9 ((n5.length : Int) - 1)) <|
  ap aa [(x2, (n5.length : Int) - 1)] fun ab =>
  Dv k2 n5 ad ae ab)
def Ds (hour : Int) : List Int → Is → Option Is
  | [], aa =>
  some aa
  | ab :: ad, aa =>
  ap aa [(hour, ab, 1)] fun u =>
  Ds hour ad u
def Ho (k6 : Int) (aa : Int → Option Bool) : Option Bool :=
  aa (k6 + 1)
def Hj : Option Bool :=
  b1 (HB) fun aa =>
  some aa
def Cn (which n n2 : Int) (l : IJ) (l2 : List Int) (l3 : Is) (l5 l6 : DW) (l7 : List (Int × Int)) : Nat → Int → Option Bool
  | 0, _k6 =>
  Hj
  | ad + 1, k6 =>
  b1 (B5 l7 k6 0) fun ab =>
  b1 (ix l5 k6 fun x3 =>
  if (x3.length : Int) ≠ 2 then
  (some true)
  else
  (ix l6 k6 fun x4 =>
  b1 (Bu x4 0) fun ak =>
  if ak = true then
  (b1 (Bu x4 1) fun al =>
  if ab ≠ (!al) then
  (some true)
  else
  (if ab = true then
  (ix x3 0 fun x5 =>
  if x5 = 2 then
  (some true)
  else
  (ix x3 1 fun x6 =>
  some (decide (x6 = 1))))
  else
  (some false)))
  else
  (if ab ≠ false then
  (some true)
  else
  (if ab = true then
  (ix x3 0 fun x7 =>
  if x7 = 2 then
  (some true)
  else
  (ix x3 1 fun x8 =>
  some (decide (x8 = 1))))
  else
  (some false))))) fun k7 =>
  if k7 = true then
  (some false)
  else
  (b2 (EM n n2 l l2 l3 [(k6, 0, true), (k6, 1, false)]) fun _l8 n7 =>
  b1 (if n7 ≠ 0 then
  (if n7 ≠ 6 then
  (some true)
  else
  (if ab = true then
  (some true)
  else
  (if n7 = 0 then
  (ix l5 k6 fun x9 =>
  ix x9 0 fun ao =>
  if ao = 2 then
  (some true)
  else
  (ix x9 1 fun aq =>
  some (decide (aq = 1))))
  else
  (some false))))
  else
  (if ab = true then
  (if n7 = 0 then
  (ix l5 k6 fun ae =>
  ix ae 0 fun ar =>
  if ar = 2 then
  (some true)
  else
  (ix ae 1 fun au =>
  some (decide (au = 1))))
  else
  (some false))
  else
  (if n7 = 0 then
  (ix l5 k6 fun af =>
  ix af 0 fun av =>
  if av = 2 then
  (some true)
  else
  (ix af 1 fun aw =>
  some (decide (aw = 1))))
  else
  (some false)))) fun k8 =>
  if k8 = true then
  (some false)
  else
  (gd (C9 which) <|
  gd ((l2.length : Int) ≠ 0) <|
  bv (Int.tmod which (l2.length : Int)) fun hour =>
  b2 (KM n n2 l l2 l3 1 hour [k6]) fun l9 n8 =>
  if n8 ≠ 0 then
  (b1 (if n8 ≠ 6 then
  (some true)
  else
  (ix l5 k6 fun ax =>
  ix ax 1 fun ay =>
  some (decide (ay = 1)))) fun k9 =>
  if k9 = true then
  (some false)
  else
  Ho k6 (Cn which n n2 l l2 l3 l5 l6 l7 ad))
  else
  (b5 (IM n n2 l l2 l3) fun n9 ah ai aj az =>
  b1 (Ds hour l9 az) fun aa =>
  b2 (Hq n9 ah ai aj aa k6 1 false) fun ba bb =>
  b1 (if bb ≠ 0 then
  (some true)
  else
  (some (!ba))) fun bc =>
  if bc = true then
  (some false)
  else
  (b2 (EM n9 ah ai aj aa [(k6, 0, true), (k6, 1, false)]) fun _bg bd =>
  if bd ≠ 6 then
  (some false)
  else
  Ho k6 (Cn which n n2 l l2 l3 l5 l6 l7 ad)))))
def EK (which n n2 : Int) (l : IJ) (l2 : List Int) (l3 : Is) (l5 l6 aa : DW) (Az : List (Int × Int)) : Option Bool :=
  b1 (if (aa.length : Int) = 0 then
  (some [[]])
  else
  (some aa)) fun ab =>
  b2 (JW n [] [(-1, false), (0, false)] ab Az 0) fun l7 n6 =>
  if n6 ≠ 0 then
  (some false)
  else
  (gd (C9 0 ∧ C9 n) <|
  Cn which n n2 l l2 l3 l5 l6 l7 (Int.toNat (n - 0)) 0)
def Cq (which n n2 : Int) (l : IJ) (l2 : List Int) (l3 : Is) (l5 l6 : DW) : DW → Int → DW → (List (Int × Int)) → Option Bool
  | [], _k2, aa, ab =>
  EK which n n2 l l2 l3 l5 l6 aa ab
  | x :: ad, k2, aa, ab =>
  b1 (if 0 < (x.length : Int) then
  (some (decide (k2 < 6)))
  else
  (some false)) fun k3 =>
  if k3 = true then
  (ap aa [[k2]] fun n5 =>
  Dv k2 n5 (Cq which n n2 l l2 l3 l5 l6 ad) x ab)
  else
  (EH k2 (Cq which n n2 l l2 l3 l5 l6 ad) aa ab)
def HD (numbers : List Int) (which : Int) : Option Bool :=
  b3 (Ku numbers) fun metal at_ GB =>
  b8 (FL metal at_ GB 4 2 3 4) fun n n2 l l2 l3 l4 _ab _aa =>
  if n2 < 2 then
  (b1 (HB) fun ok =>
  some ok)
  else
  (b2 (HM n n2 l l2 l3) fun l5 n3 =>
  b2 (Hf n n2 l l2 l3 l4) fun l6 n4 =>
  b1 (if n3 ≠ 0 then
  (some true)
  else
  (if n4 ≠ 0 then
  (some true)
  else
  (if (l5.length : Int) ≠ n then
  (some true)
  else
  (some (decide ((l6.length : Int) ≠ n)))))) fun k =>
  if k = true then
  (some false)
  else
  (Cq which n n2 l l2 l3 l5 l6 l6 0 [] []))
end Go.Proofs.YtfmapnhfamoecaaGreat
