/- Plain functions that mirror the code, printed by a program of mine. -/
import Derived.Test.YtepdgjpkhkijcaaGreatZSPl
namespace Go.Proofs.YtepdgjpkhkijcaaGreat
open Go.PL
abbrev Bc := List (List Int)
def B8 : Option (Bc × Bc) :=
  some ([[], [0], [1], [0, 2]], [[0, 0, 2, 1], [0, 0, 2, 0]])
def E3 (n lo hi : Int) : Option Bool :=
  if lo ≤ n then
  (some (decide (n ≤ hi)))
  else
  (some false)
def B9 : Option Int :=
  some (-1)
def Bv (f : (List Int) → Option Bool) : Bc → Int → Option Int
  | [], _k =>
  B9
  | x :: a6, k =>
  b1 (f x) fun ok =>
  if ok = true then
  (some k)
  else
  (Bv f a6 (k + 1))
def Cs (s_ : Bc) (f : (List Int) → Option Bool) : Option Int :=
  Bv f s_ 0
def Cb (s_ : Bc) (f : (List Int) → Option Bool) : Option Bool :=
  b1 (Cs s_ f) fun n =>
  some (decide (0 ≤ n))
def DO (x : List Int) (so : (List Int) → Option Bool) : Option Bool :=
  b1 (so x) fun ok =>
  some (!ok)
def Et (l : Bc) (so : (List Int) → Option Bool) : Option Bool :=
  b1 (Cb l (fun a6 : (List Int) => DO a6 so)) fun ok =>
  some (!ok)
def FK : Option Int :=
  some (-1)
def C9 (v : Int) : List Int → Int → Option Int
  | [], _k =>
  FK
  | x :: a6, k =>
  if v = x then
  (some k)
  else
  (C9 v a6 (k + 1))
def G3 (s_ : List Int) (v : Int) : Option Int :=
  C9 v s_ 0
def FH (s_ : List Int) (v : Int) : Option Bool :=
  b1 (G3 s_ v) fun n =>
  some (decide (0 ≤ n))
def B0 : Option Int :=
  some (-1)
def Bs (f : Int → Option Bool) : List Int → Int → Option Int
  | [], _k =>
  B0
  | x :: a6, k =>
  b1 (f x) fun ok =>
  if ok = true then
  (some k)
  else
  (Bs f a6 (k + 1))
def Co (s_ : List Int) (f : Int → Option Bool) : Option Int :=
  Bs f s_ 0
def B5 (s_ : List Int) (f : Int → Option Bool) : Option Bool :=
  b1 (Co s_ f) fun n =>
  some (decide (0 ≤ n))
def Gq (x : Int) (so : Int → Option Bool) : Option Bool :=
  b1 (so x) fun ok =>
  some (!ok)
def IV (l : List Int) (so : Int → Option Bool) : Option Bool :=
  b1 (B5 l (fun a6 : Int => Gq a6 so)) fun ok =>
  some (!ok)
def FG (m : Int) : Option Bool :=
  b1 (E3 m 0 2) fun ok =>
  some ok
def I0 (l : List Int) : Option Bool :=
  b1 (IV l (fun a6 : Int => FG a6)) fun ok =>
  some ok
def I4 (l : List Int) (a6 : Int) : Option Bool :=
  some (decide ((l.length : Int) = a6))
def JW (k2 : Int) (a6 : Int → Option Int) : Option Int :=
  a6 (k2 + 1)
def G9 (k2 : Int) (x : List Int) (a6 : Int → Option Int) : List Int → Int → Option Int
  | [], _k3 =>
  JW k2 a6
  | x2 :: aa, k3 =>
  gd (Cl (k2 - 1)) <|
  b1 (E3 x2 0 (k2 - 1)) fun ab =>
  if (!ab) = true then
  (some 1)
  else
  (gd ((0 ≤ (0 : Int) ∧ (0 : Int) ≤ k3) ∧ k3 ≤ x.length) <|
  bv (sl x 0 k3) fun x3 =>
  b1 (FH x3 x2) fun ad =>
  if ad = true then
  (some 5)
  else
  (G9 k2 x a6 aa (k3 + 1)))
def JZ (Af : Bc) : Option Int :=
  b1 (Et Af (fun a6 : (List Int) => I0 a6)) fun aa =>
  if (!aa) = true then
  (some 3)
  else
  (some 0)
def EK (Af : Bc) : Bc → Int → Option Int
  | [], _k2 =>
  JZ Af
  | x :: a6, k2 =>
  G9 k2 x (EK Af a6) x 0
def FY (Ab Af : Bc) : Option Int :=
  b1 (b1 (E3 (Ab.length : Int) 1 6) fun ok =>
  if (!ok) = true then
  (some true)
  else
  (b1 (E3 (Af.length : Int) 1 8) fun a6 =>
  if (!a6) = true then
  (some true)
  else
  (b1 (Et Af (fun aa : (List Int) => I4 aa (Ab.length : Int))) fun ab =>
  some (!ab)))) fun k =>
  if k = true then
  (some 2)
  else
  (EK Af Ab 0)
def BX (Ab _Af : Bc) : Option Int :=
  gd ((0 ≤ ((Ab.length : Int) : Int) ∧ ((Ab.length : Int) : Int) < 64) ∧ Cl (shl 1 (Ab.length : Int))) <|
  some (shl 1 (Ab.length : Int))
def Ep : Option Int :=
  some (-1)
def Cj (f : Int → Option Bool) : List Int → Int → Option Int
  | [], _k =>
  Ep
  | x :: a6, k =>
  b1 (f x) fun ok =>
  if ok = true then
  (some k)
  else
  (Cj f a6 (k + 1))
def Ft (s_ : List Int) (f : Int → Option Bool) : Option Int :=
  Cj f s_ 0
def Db (s_ : List Int) (f : Int → Option Bool) : Option Bool :=
  b1 (Ft s_ f) fun n =>
  some (decide (0 ≤ n))
def Gk (m out : Int) : Option Bool :=
  gd (0 ≤ m ∧ m < 64) <|
  some (decide ((Ji (shr out m) 1) = 1))
def Dn (AZ : Int) : Bc → Int → Int → Option Int
  | [], _k, a6 =>
  some a6
  | x :: aa, k, a6 =>
  b1 (gd (0 ≤ k ∧ k < 64) <|
  if (Ji (shr AZ k) 1) = 0 then
  (if (x.length : Int) = 0 then
  (some true)
  else
  (b1 (Db x (fun ab : Int => Gk ab a6)) fun ok =>
  some ok))
  else
  (some false)) fun k2 =>
  if k2 = true then
  (gd ((0 ≤ (k : Int) ∧ (k : Int) < 64) ∧ Cl (shl 1 k)) <|
  Dn AZ aa (k + 1) (O4 a6 (shl 1 k)))
  else
  (Dn AZ aa (k + 1) a6)
def Hq (Ab _Af : Bc) (BW : List (Int × Int)) (AZ : Int) : Option (Int × (List (Int × Int))) :=
  if ((LD BW AZ).isSome) = true then
  (some ((LD BW AZ).getD 0, BW))
  else
  (b1 (Dn AZ Ab 0 0) fun out =>
  bv (Pz BW AZ out) fun met =>
  some (out, met))
def Dt (n : Int) : List Int → Int → Int → Option Int
  | [], _k, a6 =>
  some a6
  | x2 :: aa, k, a6 =>
  b1 (if x2 = 1 then
  (gd (0 ≤ k ∧ k < 64) <|
  if (Ji (shr n k) 1) = 0 then
  (some true)
  else
  (if x2 = 2 then
  (gd (0 ≤ k ∧ k < 64) <|
  some (decide ((Ji (shr n k) 1) = 1)))
  else
  (some false)))
  else
  (if x2 = 2 then
  (gd (0 ≤ k ∧ k < 64) <|
  some (decide ((Ji (shr n k) 1) = 1)))
  else
  (some false))) fun k2 =>
  if k2 = true then
  (gd ((0 ≤ (k : Int) ∧ (k : Int) < 64) ∧ Cl (shl 1 k)) <|
  Dt n aa (k + 1) (O4 a6 (shl 1 k)))
  else
  (Dt n aa (k + 1) a6)
def Hw (Ab Af : Bc) (BW : List (Int × Int)) (hour AZ : Int) : Option (Int × (List (Int × Int))) :=
  b2 (Hq Ab Af BW AZ) fun n a6 =>
  b1 (ix Af hour fun x =>
  Dt n x 0 0) fun out =>
  some (out, a6)
def Gt (Ab Af : Bc) (k : Int) : Nat → Int → (List (Int × Int)) → (List Bool) → Option ((List (Int × Int)) × (List Bool))
  | 0, _k2, a6, r4 =>
  some (a6, r4)
  | aa + 1, k2, a6, r4 =>
  b2 (Hw Ab Af a6 k k2) fun n3 BW =>
  ix r4 k2 fun _x2 =>
  bv (r4.set (k2 : Int).toNat (decide (n3 = 0))) fun r5 =>
  Gt Ab Af k aa (k2 + 1) BW r5
def Gw (Ab Af : Bc) : Bc → Int → (List (Int × Int)) → (List (List Bool)) → Option ((List (Int × Int)) × (List (List Bool)))
  | [], _k, a6, aa =>
  some (a6, aa)
  | _x :: ah, k, a6, aa =>
  b2 (b2 (b1 (BX Ab Af) fun n2 =>
  gd (Cl 0 ∧ Cl n2) <|
  Gt Ab Af k (Int.toNat (n2 - 0)) 0 a6 (List.replicate 64 false)) fun ab r3 =>
  ap aa [r3] fun l =>
  some (ab, l)) fun ad ae =>
  Gw Ab Af ah (k + 1) ad ae
def Cx (Ab Af : Bc) : Option ((Option (Bc × Bc × (List (Int × Int)) × (List (List Bool)))) × Int) :=
  b1 (FY Ab Af) fun n =>
  if n ≠ 0 then
  (some (none, n))
  else
  (b2 (Gw Ab Af Af 0 [] []) fun a6 aa =>
  some (some (Ab, Af, a6, aa), 0))
def CT : Option Int :=
  some (-1)
def BQ (v : List Bool) : List (List Bool) → Int → Option Int
  | [], _k =>
  CT
  | x :: a6, k =>
  if v = x then
  (some k)
  else
  (BQ v a6 (k + 1))
def Dj (s_ : List (List Bool)) (v : List Bool) : Option Int :=
  BQ v s_ 0
def CS (s_ : List (List Bool)) (v : List Bool) : Option Bool :=
  b1 (Dj s_ v) fun n =>
  some (decide (0 ≤ n))
def Fz (_Ab _Af : Bc) (rows : List (List Bool)) : Option Bool :=
  b1 (CS rows (List.replicate 64 false)) fun ok =>
  some ok
def Gg (Ab Af : Bc) : Option ((Option (Bc × Bc × (List (Int × Int)) × (List (List Bool)))) × Int) :=
  b2 (Cx Ab Af) fun d n =>
  if n ≠ 0 then
  (some (none, n))
  else
  (b4 d fun a6 aa BW rows =>
  b1 (Fz a6 aa rows) fun ok =>
  if ok = true then
  (some (none, 7))
  else
  (some (some (a6, aa, BW, rows), 0)))
def Du (rows : List (List Bool)) (hour : Int) : Nat → Int → Option (List Int)
  | 0, _k =>
  some []
  | a6 + 1, k =>
  ix rows hour fun x =>
  ix x k fun x2 =>
  if x2 = true then
  (yl k <|
  Du rows hour a6 (k + 1))
  else
  (Du rows hour a6 (k + 1))
def IU (Ab Af : Bc) (rows : List (List Bool)) (hour : Int) : Option (List Int) :=
  b1 (BX Ab Af) fun n =>
  gd (Cl 0 ∧ Cl n) <|
  Du rows hour (Int.toNat (n - 0)) 0
def BA (Ab Af : Bc) (rows : List (List Bool)) (hour : Int) : Option (List Int) :=
  b1 (IU Ab Af rows hour) fun l =>
  some l
def HI : Nat → Int → Int → Option Int
  | 0, _, _ => none
  | aa + 1, a6, n2 =>
  if 0 < a6 then
  (gd (Cl (n2 + (Ji a6 1))) <|
  HI aa (shr a6 1) (n2 + (Ji a6 1)))
  else
  (some n2)
def JN (BO : Int) : Option Int :=
  b1 (HI FU BO 0) fun n =>
  some n
def GZ : List Int → Int → Option Int
  | [], n3 =>
  some n3
  | x :: a6, n3 =>
  GZ a6 (if x < n3 then x else n3)
def FV (n : Int) (more : List Int) : Option Int :=
  b1 (GZ more n) fun n2 =>
  some n2
def DR (before BO : Int) : Option Int :=
  b1 (JN (OS BO before)) fun n =>
  some n
def D7 (k x2 : Int) (aa : Bc → (List Int) → Option (Bc × (List Int))) : List Int → Bc → (List Int) → Option (Bc × (List Int))
  | [], a6, l6 =>
  aa a6 l6
  | x5 :: ab, a6, l6 =>
  ix a6 (k - 1) fun x6 =>
  ix l6 x2 fun x7 =>
  gd (Cl (k - 1)) <|
  ix x6 x5 fun x8 =>
  b1 (DR x5 x2) fun n3 =>
  gd (Cl (x8 + n3)) <|
  b1 (FV x7 [x8 + n3]) fun n4 =>
  bv (l6.set (x2 : Int).toNat n4) fun l7 =>
  D7 k x2 aa ab a6 l7
def CG (Ab Af : Bc) (rows : List (List Bool)) (k : Int) : List Int → Bc → (List Int) → Option (Bc × (List Int))
  | [], a6, l3 =>
  some (a6, l3)
  | x2 :: aa, a6, l3 =>
  if k = 0 then
  (b1 (JN x2) fun n2 =>
  ix l3 x2 fun _x3 =>
  bv (l3.set (x2 : Int).toNat n2) fun l4 =>
  CG Ab Af rows k aa a6 l4)
  else
  (ix l3 x2 fun _x4 =>
  bv (l3.set (x2 : Int).toNat 100) fun l5 =>
  gd (Cl (k - 1)) <|
  b1 (BA Ab Af rows (k - 1)) fun y2 =>
  D7 k x2 (CG Ab Af rows k aa) y2 a6 l5)
def Ec (Ab Af : Bc) (rows : List (List Bool)) : Bc → Int → Bc → Option Bc
  | [], _k, a6 =>
  some a6
  | _x :: ae, k, a6 =>
  b1 (b1 (BX Ab Af) fun n =>
  gd (0 ≤ n ∧ n ≤ 1048576) <|
  bv (List.replicate (n : Int).toNat 0 : List Int) fun l =>
  b2 (b1 (BA Ab Af rows k) fun y =>
  CG Ab Af rows k y a6 l) fun aa l2 =>
  ap aa [l2] fun ab =>
  some ab) fun ad =>
  Ec Ab Af rows ae (k + 1) ad
def FD (Ab Af : Bc) (rows : List (List Bool)) : Option Bc :=
  b1 (Ec Ab Af rows Af 0 []) fun out =>
  some out
def Ja (Ab Af : Bc) : Option (Bc × Int) :=
  b2 (Gg Ab Af) fun d n =>
  if n ≠ 0 then
  (some ([], n))
  else
  (b4 d fun a6 aa _BW rows =>
  b1 (FD a6 aa rows) fun l =>
  some (l, 0))
def J7 (Ab Af : Bc) (AZ : Int) : Option (Int × Int) :=
  b2 (Cx Ab Af) fun d n =>
  if n ≠ 0 then
  (some (0, n))
  else
  (b4 d fun a6 aa BW _rows =>
  b1 (BX a6 aa) fun n2 =>
  gd (Cl (n2 - 1)) <|
  b1 (E3 AZ 0 (n2 - 1)) fun ok =>
  if (!ok) = true then
  (some (0, 3))
  else
  (b2 (Hq a6 aa BW AZ) fun n3 _ab =>
  some (n3, 0)))
def DH (ok : Int → Option Bool) (h k : Int) : List Int → Bc → Option Bc
  | [], a6 =>
  some a6
  | x3 :: aa, a6 =>
  b1 (ok x3) fun ab =>
  if ab = true then
  (ix a6 h fun x4 =>
  ix x4 k fun x5 =>
  gd (Cl (h + 1)) <|
  ix a6 (h + 1) fun x6 =>
  ix x6 x3 fun x7 =>
  b1 (DR k x3) fun n2 =>
  gd (Cl (x7 + n2)) <|
  b1 (FV x5 [x7 + n2]) fun n3 =>
  bv (a6.set (h : Int).toNat (x4.set (k : Int).toNat n3)) fun l3 =>
  DH ok h k aa l3)
  else
  (DH ok h k aa a6)
def EB (Ab Af : Bc) (rows : List (List Bool)) (ok : Int → Option Bool) (h : Int) : Nat → Int → Bc → Option Bc
  | 0, _k, a6 =>
  some a6
  | ab + 1, k, a6 =>
  b1 (ix a6 h fun x =>
  ix x k fun _x2 =>
  bv (a6.set (h : Int).toNat (x.set (k : Int).toNat 100)) fun l2 =>
  gd (Cl (h + 1)) <|
  b1 (BA Ab Af rows (h + 1)) fun y =>
  DH ok h k y l2) fun aa =>
  EB Ab Af rows ok h ab (k + 1) aa
def EE (Ab Af : Bc) (rows : List (List Bool)) (ok : Int → Option Bool) : Nat → Bc → Int → Option Bc
  | 0, _, _ => none
  | ab + 1, a6, h =>
  if 0 ≤ h then
  (b1 (b1 (BX Ab Af) fun n =>
  gd (Cl 0 ∧ Cl n) <|
  EB Ab Af rows ok h (Int.toNat (n - 0)) 0 a6) fun aa =>
  gd (Cl (h - 1)) <|
  EE Ab Af rows ok ab aa (h - 1))
  else
  (some a6)
def Jg (Ab Af : Bc) (rows : List (List Bool)) (ok : Int → Option Bool) : Option Bc :=
  gd (0 ≤ (Af.length : Int) ∧ (Af.length : Int) ≤ 1048576) <|
  bv (List.replicate ((Af.length : Int) : Int).toNat (List.replicate 64 0) : Bc) fun l =>
  b1 (gd (Cl ((Af.length : Int) - 2)) <|
  EE Ab Af rows ok FU l ((Af.length : Int) - 2)) fun out =>
  some out
def Dp (ok : Int → Option Bool) (l : Bc) (before k : Int) : List Int → Int → Int → Option (Int × Int)
  | [], a6, n2 =>
  some (a6, n2)
  | x2 :: aa, a6, n2 =>
  b1 (DR before x2) fun n3 =>
  ix l k fun x3 =>
  ix x3 x2 fun x4 =>
  gd (Cl (n3 + x4)) <|
  b1 (b1 (ok x2) fun ab =>
  if ab = true then
  (some (decide ((n3 + x4) < n2)))
  else
  (some false)) fun k2 =>
  if k2 = true then
  (Dp ok l before k aa x2 (n3 + x4))
  else
  (Dp ok l before k aa a6 n2)
def Hz (k : Int) (aa : Int → (List Int) → Int → Int → Option ((List Int) × Int)) (ab : List Int) (ad a6 : Int) : Option ((List Int) × Int) :=
  aa (k + 1) ab ad a6
def HB (out : List Int) (sum : Int) : Option ((List Int) × Int) :=
  gd (out ≠ []) <|
  some (out, sum)
def Dq (Ab Af : Bc) (rows : List (List Bool)) (ok : Int → Option Bool) (l : Bc) : Bc → Int → (List Int) → Int → Int → Option ((List Int) × Int)
  | [], _k, aa, a6, _before =>
  HB aa a6
  | _x :: ad, k, aa, a6, before =>
  b2 (b1 (BA Ab Af rows k) fun y =>
  Dp ok l before k y 0 100) fun ab n =>
  if n = 100 then
  (some ([], 100))
  else
  (b1 (DR before ab) fun n4 =>
  gd (Cl (a6 + n4)) <|
  ap aa [ab] fun l2 =>
  Hz k (Dq Ab Af rows ok l ad) l2 (a6 + n4) ab)
def Ex (Ab Af : Bc) (rows : List (List Bool)) (ok : Int → Option Bool) : Option ((List Int) × Int) :=
  b1 (Jg Ab Af rows ok) fun l =>
  Dq Ab Af rows ok l Af 0 [] 0 0
def Iq (_x : Int) : Option Bool :=
  some true
def LB : Option Bool :=
  some true
def IJ (Ab Af : Bc) : Option ((List Int) × Int × Int) :=
  b2 (Gg Ab Af) fun d n =>
  if n ≠ 0 then
  (some ([], 0, n))
  else
  (b4 d fun a6 aa _BW rows =>
  b1 (LB) fun y =>
  gd (y = true) <|
  b2 (Ex a6 aa rows (fun ab : Int => Iq ab)) fun l n2 =>
  some (l, n2, 0))
def FN : Option Bool :=
  some true
def C4 (s2 : List Int) : List Int → Int → Option Bool
  | [], _k =>
  FN
  | x :: a6, k =>
  ix s2 k fun x2 =>
  if x ≠ x2 then
  (some false)
  else
  (C4 s2 a6 (k + 1))
def DY (s1 s2 : List Int) : Option Bool :=
  if (s1.length : Int) ≠ (s2.length : Int) then
  (some false)
  else
  (C4 s2 s1 0)
def C2 (a b : List Int) : Option Bool :=
  b1 (DY a b) fun ok =>
  some ok
def Fh (s_ : List Int) : Option (List Int) :=
  N2 (s_ = []) (some []) (ap ([] : List Int) s_ fun l =>
  some l)
def I2 (s_ BO : Int) : Option Bool :=
  some (decide ((OS s_ BO) = 0))
def Jm (a6 : List Int) : Option (Bool × (List Int)) :=
  some (false, a6)
def Gu (l : List Int) (BO many : Int) (Ab Af : Bc) (rows : List (List Bool)) (a6 aa : Bc) (ad : (List Int) → Int → Int → Int → Bc → Bc → (List (List Bool)) → (List Int) → Bc → Bc → Option (Bool × (List Int))) : Nat → Int → (List Int) → Option (Bool × (List Int))
  | 0, _i, ab =>
  Jm ab
  | ah + 1, i, ab =>
  gd ((0 ≤ (i : Int) ∧ (i : Int) < 64) ∧ Cl (shl 1 i)) <|
  gd (Cl (many - 1)) <|
  b1 (Fh l) fun l3 =>
  ap l3 [i] fun l4 =>
  b2 (ad l4 (O4 BO (shl 1 i)) (i + 1) (many - 1) Ab Af rows ab a6 aa) fun ok ae =>
  if ok = true then
  (some (true, ae))
  else
  (Gu l BO many Ab Af rows a6 aa ad ah (i + 1) ae)
def KF (ab : (List Int) → Int → Int → Int → Bc → Bc → (List (List Bool)) → (List Int) → Bc → Bc → Option (Bool × (List Int))) (l : List Int) (BO from_ many : Int) (Ab Af : Bc) (rows : List (List Bool)) (out : List Int) (a6 aa : Bc) : Option (Bool × (List Int)) :=
  if many = 0 then
  (b2 (Ex Ab Af rows (fun ad : Int => I2 ad BO)) fun l2 _n =>
  if l2 = [] then
  (some (false, out))
  else
  (some (true, l)))
  else
  (gd (Cl from_ ∧ Cl (a6.length : Int)) <|
  Gu l BO many Ab Af rows a6 aa ab (Int.toNat ((a6.length : Int) - from_)) from_ out)
def I8 : Nat → (List Int) → Int → Int → Int → Bc → Bc → (List (List Bool)) → (List Int) → Bc → Bc → Option (Bool × (List Int))
  | 0, _, _, _, _, _, _, _, _, _, _ => none
  | fu + 1, l, BO, from_, many, Ab, Af, rows, out, a6, aa =>
  KF (I8 fu) l BO from_ many Ab Af rows out a6 aa
def IG (Ab Af a6 aa : Bc) (rows : List (List Bool)) : Nat → Int → (List Int) → Option (List Int)
  | 0, _k, ab =>
  some ab
  | ae + 1, k, ab =>
  b2 (I8 FU [] 0 0 k a6 aa rows ab Ab Af) fun ok ad =>
  if ok = true then
  (some ad)
  else
  (IG Ab Af a6 aa rows ae (k + 1) ad)
def Ly (Ab Af : Bc) : Option ((List Int) × Int) :=
  b2 (Gg Ab Af) fun d n =>
  if n ≠ 0 then
  (some ([], n))
  else
  (b1 (gd (Cl ((Ab.length : Int) + 1)) <|
  b4 d fun a6 aa _BW rows =>
  gd (Cl 0 ∧ Cl ((Ab.length : Int) + 1)) <|
  IG Ab Af a6 aa rows (Int.toNat (((Ab.length : Int) + 1) - 0)) 0 []) fun out =>
  some (out, 0))
def Gy (Bx : Int) (l : Bc) (ad ae : List Int) (k x : Int) (ab : (List Int) → (List Int) → Option ((List Int) × (List Int))) : List Int → (List Int) → (List Int) → Option ((List Int) × (List Int))
  | [], aa, a6 =>
  ab aa a6
  | x6 :: ai, aa, a6 =>
  gd (Cl (k - 1)) <|
  ix l (k - 1) fun x7 =>
  ix x7 x6 fun x8 =>
  b1 (DR x6 x) fun n2 =>
  gd (Cl (x8 + n2)) <|
  ix l k fun x9 =>
  ix x9 x fun al =>
  if (x8 + n2) = al then
  (gd (0 ≤ Bx ∧ Bx < 64) <|
  bv (Ji (shr (OS x x6) Bx) 1) fun n3 =>
  ix aa x fun ao =>
  ix ad x6 fun aj =>
  gd (Cl (aj + n3)) <|
  ix a6 x fun ak =>
  ix ae x6 fun ah =>
  gd (Cl (ah + n3)) <|
  b1 (FV ao [aj + n3]) fun n4 =>
  bv (aa.set (x : Int).toNat n4) fun l4 =>
  bv (a6.set (x : Int).toNat (if ah + n3 > ak then ah + n3 else ak)) fun l5 =>
  Gy Bx l ad ae k x ab ai l4 l5)
  else
  (Gy Bx l ad ae k x ab ai aa a6)
def Fq (Bx : Int) (a6 ab : Bc) (rows : List (List Bool)) (l : Bc) (ae ah : List Int) (k : Int) : List Int → (List Int) → (List Int) → Option ((List Int) × (List Int))
  | [], ad, aa =>
  some (ad, aa)
  | x :: aj, ad, aa =>
  if k = 0 then
  (gd (0 ≤ Bx ∧ Bx < 64) <|
  ix ad x fun _x2 =>
  bv (ad.set (x : Int).toNat (Ji (shr x Bx) 1)) fun l2 =>
  ix l2 x fun x3 =>
  ix aa x fun _x4 =>
  bv (aa.set (x : Int).toNat x3) fun l3 =>
  Fq Bx a6 ab rows l ae ah k aj l2 l3)
  else
  (ix ad x fun _x5 =>
  bv (ad.set (x : Int).toNat 100) fun ai =>
  gd (Cl (k - 1)) <|
  b1 (BA a6 ab rows (k - 1)) fun y2 =>
  Gy Bx l ae ah k x (Fq Bx a6 ab rows l ae ah k aj) y2 ai aa)
def HR (Bx : Int) (a6 aa : Bc) (rows : List (List Bool)) (l : Bc) : Nat → Int → (List Int) → (List Int) → Option ((List Int) × (List Int))
  | 0, _k, ab, ad =>
  some (ab, ad)
  | ae + 1, k, ab, ad =>
  b2 (b2 (b1 (BA a6 aa rows k) fun y =>
  Fq Bx a6 aa rows l ab ad k y (List.replicate 64 0) (List.replicate 64 0)) fun low high =>
  some (low, high)) fun ah ai =>
  HR Bx a6 aa rows l ae (k + 1) ah ai
def GF (l : Bc) (lo hi : List Int) (n5 : Int) : List Int → Int → Int → Option (Int × Int)
  | [], aa, a6 =>
  some (aa, a6)
  | ab :: ad, aa, a6 =>
  gd (Cl ((l.length : Int) - 1)) <|
  ix l ((l.length : Int) - 1) fun ah =>
  ix ah ab fun ai =>
  if ai = n5 then
  (ix lo ab fun aj =>
  ix hi ab fun ae =>
  b1 (FV aa [aj]) fun n6 =>
  GF l lo hi n5 ad n6 (if ae > a6 then ae else a6))
  else
  (GF l lo hi n5 ad aa a6)
def KO (Ab Af : Bc) (Bx : Int) : Option (Int × Int × Int) :=
  b2 (Cx Ab Af) fun d n =>
  if n ≠ 0 then
  (some (0, 0, n))
  else
  (gd (Cl ((Ab.length : Int) - 1)) <|
  b1 (E3 Bx 0 ((Ab.length : Int) - 1)) fun ok =>
  if (!ok) = true then
  (some (0, 0, 1))
  else
  (b4 d fun a6 aa _BW rows =>
  b1 (Fz a6 aa rows) fun ae =>
  if ae = true then
  (some (0, 0, 7))
  else
  (b1 (FD a6 aa rows) fun l =>
  b2 (gd (Cl 0 ∧ Cl (Af.length : Int)) <|
  HR Bx a6 aa rows l (Int.toNat ((Af.length : Int) - 0)) 0 (List.replicate 64 0) (List.replicate 64 0)) fun lo hi =>
  b1 (LB) fun y3 =>
  gd (y3 = true) <|
  b2 (Ex a6 aa rows (fun ah : Int => Iq ah)) fun _l6 n5 =>
  b2 (gd (Cl ((l.length : Int) - 1)) <|
  b1 (BA a6 aa rows ((l.length : Int) - 1)) fun y4 =>
  GF l lo hi n5 y4 100 0) fun ab ad =>
  some (ab, ad, 0))))
def GS (Ab Af : Bc) (hour Bx : Int) : Option Bool :=
  gd (Cl ((Af.length : Int) - 1)) <|
  b1 (E3 hour 0 ((Af.length : Int) - 1)) fun ok =>
  if ok = true then
  (gd (Cl ((Ab.length : Int) - 1)) <|
  b1 (E3 Bx 0 ((Ab.length : Int) - 1)) fun a6 =>
  some a6)
  else
  (some false)
def Ed : Bc → Int → Bc → Option Bc
  | [], _k, a6 =>
  some a6
  | x :: aa, k, a6 =>
  ix a6 k fun _x2 =>
  b1 (Fh x) fun l3 =>
  bv (a6.set (k : Int).toNat l3) fun l4 =>
  Ed aa (k + 1) l4
def Ek : Bc → Int → Bc → Option Bc
  | [], _k2, a6 =>
  some a6
  | x3 :: aa, k2, a6 =>
  ix a6 k2 fun _x4 =>
  gd (0 ≤ (x3.length : Int) ∧ (x3.length : Int) ≤ 1048576) <|
  bv (List.replicate ((x3.length : Int) : Int).toNat 0 : List Int) fun l5 =>
  bv (a6.set (k2 : Int).toNat l5) fun l6 =>
  ix l6 k2 fun x5 =>
  bv (Rw x5 x3) fun l7 =>
  bv (l6.set (k2 : Int).toNat l7) fun out =>
  Ek aa (k2 + 1) out
def Fx (Ab Af : Bc) (hour Bx m : Int) : Option (Bc × Bc) :=
  gd (0 ≤ (Ab.length : Int) ∧ (Ab.length : Int) ≤ 1048576) <|
  gd (0 ≤ (Af.length : Int) ∧ (Af.length : Int) ≤ 1048576) <|
  bv (List.replicate ((Af.length : Int) : Int).toNat [] : Bc) fun l =>
  bv (List.replicate (Int.toNat (Ab.length : Int)) [] : Bc) fun l2 =>
  b1 (Ed Ab 0 l2) fun aa =>
  b1 (Ek Af 0 l) fun a6 =>
  ix a6 hour fun x6 =>
  ix x6 Bx fun _x7 =>
  bv (x6.set (Bx : Int).toNat m) fun l8 =>
  bv (a6.set (hour : Int).toNat l8) fun ab =>
  some (aa, ab)
def Eh : List Int → Int → Option Int
  | [], k3 =>
  some k3
  | _x2 :: a6, k3 =>
  gd (Cl (k3 + 1)) <|
  Eh a6 (k3 + 1)
def Ee (Ab Af : Bc) (rows : List (List Bool)) : Bc → Int → Int → Option Int
  | [], _k, n2 =>
  some n2
  | _x :: a6, k, n2 =>
  b1 (b1 (b1 (BA Ab Af rows k) fun y =>
  Eh y 0) fun k2 =>
  gd (Cl (n2 * k2)) <|
  some (n2 * k2)) fun n3 =>
  Ee Ab Af rows a6 (k + 1) n3
def FA (Ab Af : Bc) (rows : List (List Bool)) : Option Int :=
  b1 (Ee Ab Af rows Af 0 1) fun n =>
  some n
def Hr (Ab Af : Bc) (_rows : List (List Bool)) (hour Bx : Int) : Option (Int × Int) :=
  b2 (Fx Ab Af hour Bx 1) fun l l2 =>
  b2 (Cx l l2) fun d _n =>
  b2 (Fx Ab Af hour Bx 2) fun l3 l4 =>
  b2 (Cx l3 l4) fun d2 _n2 =>
  b4 d fun a6 ab _BW ae =>
  b4 d2 fun aa ad _ai ah =>
  b1 (FA a6 ab ae) fun n3 =>
  b1 (FA aa ad ah) fun n4 =>
  some (n3, n4)
def Ki (Ab Af : Bc) (hour Bx : Int) : Option (Int × Int × Int) :=
  b2 (Cx Ab Af) fun d n =>
  if n ≠ 0 then
  (some (0, 0, n))
  else
  (b1 (GS Ab Af hour Bx) fun ok =>
  if (!ok) = true then
  (some (0, 0, 1))
  else
  (ix Af hour fun x =>
  ix x Bx fun x2 =>
  if x2 ≠ 0 then
  (some (0, 0, 5))
  else
  (b4 d fun a6 aa _BW rows =>
  b2 (Hr a6 aa rows hour Bx) fun n2 n3 =>
  some (n2, n3, 0))))
def Kg (Ab Af : Bc) : Option (Int × Int) :=
  b2 (Cx Ab Af) fun d n =>
  if n ≠ 0 then
  (some (0, n))
  else
  (b4 d fun a6 aa _BW rows =>
  b1 (FA a6 aa rows) fun n2 =>
  some (n2, 0))
def Gz (l : Bc) (aa : List Int) (k x : Int) (ab : (List Int) → Option (List Int)) : List Int → (List Int) → Option (List Int)
  | [], a6 =>
  ab a6
  | x3 :: ad, a6 =>
  gd (Cl (k - 1)) <|
  ix l (k - 1) fun x4 =>
  ix x4 x3 fun x5 =>
  b1 (DR x3 x) fun n2 =>
  gd (Cl (x5 + n2)) <|
  ix l k fun x6 =>
  ix x6 x fun x7 =>
  if (x5 + n2) = x7 then
  (ix a6 x fun x8 =>
  ix aa x3 fun x9 =>
  gd (Cl (x8 + x9)) <|
  bv (a6.set (x : Int).toNat (x8 + x9)) fun l2 =>
  Gz l aa k x ab ad l2)
  else
  (Gz l aa k x ab ad a6)
def Fl (a6 ab : Bc) (rows : List (List Bool)) (l : Bc) (ad : List Int) (k : Int) : List Int → (List Int) → Option (List Int)
  | [], aa =>
  some aa
  | x :: ah, aa =>
  if k = 0 then
  (ix aa x fun _x2 =>
  bv (aa.set (x : Int).toNat 1) fun ae =>
  Fl a6 ab rows l ad k ah ae)
  else
  (gd (Cl (k - 1)) <|
  b1 (BA a6 ab rows (k - 1)) fun y2 =>
  Gz l ad k x (Fl a6 ab rows l ad k ah) y2 aa)
def HS (a6 aa : Bc) (rows : List (List Bool)) (l : Bc) : Nat → Int → (List Int) → Option (List Int)
  | 0, _k, ab =>
  some ab
  | ah + 1, k, ab =>
  b1 (b1 (b1 (BA a6 aa rows k) fun y =>
  Fl a6 aa rows l ab k y (List.replicate 64 0)) fun ad =>
  some ad) fun ae =>
  HS a6 aa rows l ah (k + 1) ae
def HK (aa : List Int) : List Int → Int → Option Int
  | [], a6 =>
  some a6
  | ab :: ad, a6 =>
  ix aa ab fun ae =>
  b1 (FV a6 [ae]) fun n3 =>
  HK aa ad n3
def GB (ways ab : List Int) (a6 : Int) : List Int → Int → Option Int
  | [], aa =>
  some aa
  | ad :: ae, aa =>
  ix ab ad fun ai =>
  if ai = a6 then
  (ix ways ad fun ah =>
  gd (Cl (aa + ah)) <|
  GB ways ab a6 ae (aa + ah))
  else
  (GB ways ab a6 ae aa)
def KN (Ab Af : Bc) : Option (Int × Int) :=
  b2 (Cx Ab Af) fun d n =>
  if n ≠ 0 then
  (some (0, n))
  else
  (b4 d fun a6 aa _BW rows =>
  b1 (Fz a6 aa rows) fun ok =>
  if ok = true then
  (some (0, 0))
  else
  (b1 (FD a6 aa rows) fun l =>
  b1 (gd (Cl 0 ∧ Cl (Af.length : Int)) <|
  HS a6 aa rows l (Int.toNat ((Af.length : Int) - 0)) 0 (List.replicate 64 0)) fun ways =>
  gd (Cl ((l.length : Int) - 1)) <|
  ix l ((l.length : Int) - 1) fun ad =>
  b1 (gd (Cl ((l.length : Int) - 1)) <|
  b1 (BA a6 aa rows ((l.length : Int) - 1)) fun y3 =>
  HK ad y3 100) fun ab =>
  b1 (gd (Cl ((l.length : Int) - 1)) <|
  b1 (BA a6 aa rows ((l.length : Int) - 1)) fun y4 =>
  GB ways ad ab y4 0) fun out =>
  some (out, 0)))
def Ch (s_ : List Int) : Option (List Int) :=
  N2 (s_ = []) (some []) (ap ([] : List Int) s_ fun l =>
  some l)
def EV : List Int → Int → Int → Option (Int × Int)
  | [], a6, aa =>
  some (a6, aa)
  | x5 :: ab, a6, aa =>
  EV ab (O4 a6 x5) (Ji aa x5)
def E6 (some_ a6 : Int) : Bc → Int → (List Int) → Option (List Int)
  | [], _k3, l3 =>
  some l3
  | _x6 :: aa, k3, l3 =>
  b1 (gd (0 ≤ k3 ∧ k3 < 64) <|
  if (Ji (shr a6 k3) 1) = 1 then
  (some 1)
  else
  (some 0)) fun v =>
  b1 (gd (0 ≤ k3 ∧ k3 < 64) <|
  if (Ji (shr some_ k3) 1) = 0 then
  (some 2)
  else
  (some v)) fun v2 =>
  ap l3 [v2] fun l4 =>
  E6 some_ a6 aa (k3 + 1) l4
def Fj (Ab a6 aa : Bc) (rows : List (List Bool)) : Bc → Int → Bc → Option Bc
  | [], _k, ab =>
  some ab
  | _x :: aj, k, ab =>
  b1 (b1 (if 0 < k then
  (ix rows k fun x2 =>
  gd (Cl (k - 1)) <|
  ix rows (k - 1) fun x3 =>
  some (decide (x2 = x3)))
  else
  (some false)) fun k2 =>
  if k2 = true then
  (gd (Cl (k - 1)) <|
  ix ab (k - 1) fun x4 =>
  b1 (Ch x4) fun l =>
  ap ab [l] fun ad =>
  some ad)
  else
  (b1 (BX a6 aa) fun n2 =>
  gd (Cl (n2 - 1)) <|
  b2 (b1 (BA a6 aa rows k) fun y =>
  EV y 0 (n2 - 1)) fun some_ ae =>
  b1 (E6 some_ ae Ab 0 []) fun l2 =>
  ap ab [l2] fun ah =>
  some ah)) fun ai =>
  Fj Ab a6 aa rows aj (k + 1) ai
def Iv (Ab Af : Bc) : Option (Bc × Int) :=
  b2 (Gg Ab Af) fun d n =>
  if n ≠ 0 then
  (some ([], n))
  else
  (b1 (b4 d fun a6 aa _BW rows =>
  Fj Ab a6 aa rows Af 0 []) fun out =>
  some (out, 0))
def BZ : Option Bool :=
  some true
def Bq (s2 : List Int) : List Int → Int → Option Bool
  | [], _k =>
  BZ
  | x :: a6, k =>
  ix s2 k fun x2 =>
  if x ≠ x2 then
  (some false)
  else
  (Bq s2 a6 (k + 1))
def Cg (s1 s2 : List Int) : Option Bool :=
  if (s1.length : Int) ≠ (s2.length : Int) then
  (some false)
  else
  (Bq s2 s1 0)
def G5 (a b : List Int) : Option Bool :=
  b1 (Cg a b) fun ok =>
  some ok
def BF : Option Bool :=
  b2 (B8) fun _y _y2 =>
  b2 (J7 [[], [0], [1], [0, 2]] [[0, 0, 2, 1], [0, 0, 2, 0]] 2) fun n n2 =>
  b2 (B8) fun _y3 _y4 =>
  b3 (IJ [[], [0], [1], [0, 2]] [[0, 0, 2, 1], [0, 0, 2, 0]]) fun l n3 n4 =>
  b2 (B8) fun _y5 _y6 =>
  b2 (Kg [[], [0], [1], [0, 2]] [[0, 0, 2, 1], [0, 0, 2, 0]]) fun n5 n6 =>
  b2 (B8) fun _y7 _y8 =>
  b2 (KN [[], [0], [1], [0, 2]] [[0, 0, 2, 1], [0, 0, 2, 0]]) fun n7 n8 =>
  b1 (if n2 ≠ 0 then
  (some true)
  else
  (if n4 ≠ 0 then
  (some true)
  else
  (if n6 ≠ 0 then
  (some true)
  else
  (if n8 ≠ 0 then
  (some true)
  else
  (if n ≠ 9 then
  (some true)
  else
  (if n3 ≠ 1 then
  (some true)
  else
  (b1 (C2 l [2, 2]) fun ok =>
  if (!ok) = true then
  (some true)
  else
  (if n5 ≠ 42 then
  (some true)
  else
  (some (decide (n7 ≠ 2))))))))))) fun k =>
  if k = true then
  (some false)
  else
  (b2 (B8) fun _y9 _al =>
  b2 (Iv [[], [0], [1], [0, 2]] [[0, 0, 2, 1], [0, 0, 2, 0]]) fun l2 n9 =>
  b2 (B8) fun _ao _aq =>
  b2 (Ly [[], [0], [1], [0, 2]] [[0, 0, 2, 1], [0, 0, 2, 0]]) fun l3 a6 =>
  b2 (B8) fun _ar _au =>
  b3 (Ki [[], [0], [1], [0, 2]] [[0, 0, 2, 1], [0, 0, 2, 0]] 0 1) fun aa ab ad =>
  b2 (B8) fun _av _aw =>
  b3 (KO [[], [0], [1], [0, 2]] [[0, 0, 2, 1], [0, 0, 2, 0]] 1) fun ae ah ai =>
  if n9 = 0 then
  (if a6 = 0 then
  (if ad = 0 then
  (if ai = 0 then
  (if (l2.length : Int) = 2 then
  (ix l2 0 fun x =>
  b1 (G5 x [2, 0, 0, 2]) fun aj =>
  if aj = true then
  (b1 (C2 l3 [1]) fun ak =>
  if ak = true then
  (if aa = 14 then
  (if ab = 28 then
  (some (decide (ae = 0 ∧ ah = 1)))
  else
  (some false))
  else
  (some false))
  else
  (some false))
  else
  (some false))
  else
  (some false))
  else
  (some false))
  else
  (some false))
  else
  (some false))
  else
  (some false))
def GL (l : Bc) (rows : Int) : Option Bool :=
  some (decide (rows < (l.length : Int)))
def Dz (l : Bc) (rows IL : Int) : Bc → Option Bool
  | [] =>
  GL l rows
  | x :: a6 =>
  if IL < (x.length : Int) then
  (some true)
  else
  (Dz l rows IL a6)
def Gl (l : Bc) (rows IL : Int) : Option Bool :=
  Dz l rows IL l
def Gr (l : Bc) (rows : Int) : Option Bool :=
  some (decide (rows < (l.length : Int)))
def Dk (l : Bc) (rows IL : Int) : Bc → Option Bool
  | [] =>
  Gr l rows
  | x :: a6 =>
  if IL < (x.length : Int) then
  (some true)
  else
  (Dk l rows IL a6)
def HE (l : Bc) (rows IL : Int) : Option Bool :=
  Dk l rows IL l
def Dw (Ab Af : Bc) : Option Bool :=
  b1 (Gl Ab 8 8) fun ok =>
  if ok = true then
  (some true)
  else
  (b1 (HE Af 10 8) fun a6 =>
  some a6)
def Ho (l : List Int) : Option (List Int) :=
  gd (0 ≤ (l.length : Int) ∧ (l.length : Int) ≤ 1048576) <|
  bv (List.replicate ((l.length : Int) : Int).toNat 0 : List Int) fun l2 =>
  bv (Rw l2 l) fun out =>
  some out
def C5 : Bc → Int → Bc → Option Bc
  | [], _k, a6 =>
  some a6
  | x :: ab, k, a6 =>
  b1 (Ho x) fun l3 =>
  ix a6 k fun _x2 =>
  bv (a6.set (k : Int).toNat l3) fun aa =>
  C5 ab (k + 1) aa
def Fi (l : Bc) : Option Bc :=
  gd (0 ≤ (l.length : Int) ∧ (l.length : Int) ≤ 1048576) <|
  bv (List.replicate ((l.length : Int) : Int).toNat [] : Bc) fun l2 =>
  b1 (C5 l 0 l2) fun out =>
  some out
def Ir (l : List Int) : Option (List Int) :=
  gd (0 ≤ (l.length : Int) ∧ (l.length : Int) ≤ 1048576) <|
  bv (List.replicate ((l.length : Int) : Int).toNat 0 : List Int) fun l2 =>
  bv (Rw l2 l) fun out =>
  some out
def CV : Bc → Int → Bc → Option Bc
  | [], _k, a6 =>
  some a6
  | x :: ab, k, a6 =>
  b1 (Ir x) fun l3 =>
  ix a6 k fun _x2 =>
  bv (a6.set (k : Int).toNat l3) fun aa =>
  CV ab (k + 1) aa
def GG (l : Bc) : Option Bc :=
  gd (0 ≤ (l.length : Int) ∧ (l.length : Int) ≤ 1048576) <|
  bv (List.replicate ((l.length : Int) : Int).toNat [] : Bc) fun l2 =>
  b1 (CV l 0 l2) fun out =>
  some out
def DS (Ab Af : Bc) : Option (Bc × Bc) :=
  b1 (Fi Ab) fun l =>
  b1 (GG Af) fun l2 =>
  some (l, l2)
def Ef : List Int → (List Int) → Option (List Int)
  | [], a6 =>
  some a6
  | x2 :: ab, a6 =>
  ap a6 [x2] fun aa =>
  Ef ab aa
def Eb : Bc → Bc → Option Bc
  | [], a6 =>
  some a6
  | x :: ab, a6 =>
  b1 (b1 (Ef x []) fun marks =>
  ap a6 [marks] fun out =>
  some out) fun aa =>
  Eb ab aa
def Cw (Ab Af : Bc) : Option (Bc × Bc) :=
  b1 (Eb Af []) fun a6 =>
  some (Ab, a6)
def Ev (n lo hi : Int) : Option Bool :=
  if n < lo then
  (some true)
  else
  (some (decide (hi < n)))
def H6 (k2 : Int) (a6 : Int → Option Int) : Option Int :=
  a6 (k2 + 1)
def EI (x2 : List Int) (k2 x3 : Int) (a6 : Int → Option Int) : Nat → Int → Option Int
  | 0, _j =>
  H6 k2 a6
  | aa + 1, j =>
  ix x2 j fun x4 =>
  if x4 = x3 then
  (some 5)
  else
  (EI x2 k2 x3 a6 aa (j + 1))
def Ih (i : Int) (a6 : Int → Option Int) : Option Int :=
  a6 (i + 1)
def C1 (i : Int) (x2 : List Int) (a6 : Int → Option Int) : List Int → Int → Option Int
  | [], _k2 =>
  Ih i a6
  | x3 :: aa, k2 =>
  gd (Cl (i - 1)) <|
  b1 (Ev x3 0 (i - 1)) fun ab =>
  if ab = true then
  (some 1)
  else
  (gd (Cl 0 ∧ Cl k2) <|
  EI x2 k2 x3 (C1 i x2 a6 aa) (Int.toNat (k2 - 0)) 0)
def HG (a6 : Option Int) : Option Int :=
  a6
def Ea (x5 : List Int) (a6 : Option Int) : Bc → Int → Option Int
  | [], _i2 =>
  HG a6
  | _x6 :: aa, i2 =>
  ix x5 i2 fun x7 =>
  b1 (Ev x7 0 2) fun ab =>
  if ab = true then
  (some 3)
  else
  (Ea x5 a6 aa (i2 + 1))
def H9 : Option Int :=
  some 0
def CH (Ab : Bc) : Bc → Option Int
  | [] =>
  H9
  | x5 :: a6 =>
  Ea x5 (CH Ab a6) Ab 0
def H5 (Ab Af : Bc) : Option Int :=
  CH Ab Af
def B4 (Ab Af : Bc) : Bc → Int → Option Int
  | [], _i =>
  H5 Ab Af
  | x2 :: a6, i =>
  C1 i x2 (B4 Ab Af a6) x2 0
def H3 (Ab Af : Bc) : Option Int :=
  B4 Ab Af Ab 0
def ED (Ab Af : Bc) : Bc → Option Int
  | [] =>
  H3 Ab Af
  | x :: a6 =>
  if (x.length : Int) ≠ (Ab.length : Int) then
  (some 2)
  else
  (ED Ab Af a6)
def CX (Ab Af : Bc) : Option Int :=
  b1 (b1 (Ev (Ab.length : Int) 1 6) fun ok =>
  if ok = true then
  (some true)
  else
  (b1 (Ev (Af.length : Int) 1 8) fun a6 =>
  some a6)) fun k =>
  if k = true then
  (some 2)
  else
  (ED Ab Af Af)
def LX (Ab Af : Bc) (hour Bx m : Int) : Option (Bc × Bc × Int) :=
  b1 (FY Ab Af) fun n =>
  if n ≠ 0 then
  (some ([], [], n))
  else
  (b1 (GS Ab Af hour Bx) fun ok =>
  if (!ok) = true then
  (some ([], [], 1))
  else
  (b1 (FG m) fun a6 =>
  if (!a6) = true then
  (some ([], [], 3))
  else
  (b2 (Fx Ab Af hour Bx m) fun l l2 =>
  some (l, l2, 0))))
def CN : Option Bool :=
  some true
def BR (s2 : Bc) (eq : ((List Int) × (List Int)) → Option Bool) : Bc → Int → Option Bool
  | [], _k =>
  CN
  | x :: a6, k =>
  ix s2 k fun x2 =>
  b1 (eq (x, x2)) fun ok =>
  if (!ok) = true then
  (some false)
  else
  (BR s2 eq a6 (k + 1))
def Dg (s1 s2 : Bc) (eq : ((List Int) × (List Int)) → Option Bool) : Option Bool :=
  if (s1.length : Int) ≠ (s2.length : Int) then
  (some false)
  else
  (BR s2 eq s1 0)
def E8 (a b : Bc) : Option Bool :=
  b1 (Dg a b (fun a6 : (List Int) × (List Int) => DY a6.1 a6.2)) fun ok =>
  some ok
def Br : Option Bool :=
  some true
def A3 (s2 : Bc) (eq : ((List Int) × (List Int)) → Option Bool) : Bc → Int → Option Bool
  | [], _k =>
  Br
  | x :: a6, k =>
  ix s2 k fun x2 =>
  b1 (eq (x, x2)) fun ok =>
  if (!ok) = true then
  (some false)
  else
  (A3 s2 eq a6 (k + 1))
def Bw (s1 s2 : Bc) (eq : ((List Int) × (List Int)) → Option Bool) : Option Bool :=
  if (s1.length : Int) ≠ (s2.length : Int) then
  (some false)
  else
  (A3 s2 eq s1 0)
def Cv : Option Bool :=
  some true
def BJ (s2 : List Int) : List Int → Int → Option Bool
  | [], _k =>
  Cv
  | x :: a6, k =>
  ix s2 k fun x2 =>
  if x ≠ x2 then
  (some false)
  else
  (BJ s2 a6 (k + 1))
def B1 (s1 s2 : List Int) : Option Bool :=
  if (s1.length : Int) ≠ (s2.length : Int) then
  (some false)
  else
  (BJ s2 s1 0)
def GH (a b : Bc) : Option Bool :=
  b1 (Bw a b (fun a6 : (List Int) × (List Int) => B1 a6.1 a6.2)) fun ok =>
  some ok
def Di (Ab Af a6 aa : Bc) : Option Bool :=
  b1 (E8 Ab a6) fun ok =>
  if ok = true then
  (b1 (GH Af aa) fun ab =>
  some ab)
  else
  (some false)
def CA : Nat → Int → Bc → Option Bc
  | 0, _k4, a6 =>
  some a6
  | aa + 1, k4, a6 =>
  ix a6 k4 fun x3 =>
  bv (List.replicate x3.length 0 : List Int) fun ab =>
  bv (a6.set (k4 : Int).toNat ab) fun u =>
  CA aa (k4 + 1) u
def CB : Nat → Int → Bc → Option Unit
  | 0, _k6, _k5 =>
  some ()
  | a6 + 1, k6, k5 =>
  ix k5 k6 fun x4 =>
  bv (List.replicate x4.length 0 : List Int) fun aa =>
  bv (k5.set (k6 : Int).toNat aa) fun ab =>
  CB a6 (k6 + 1) ab
def B3 (Ab Af : Bc) (hour Bx m : Int) : Option Bool :=
  b1 (Dw Ab Af) fun ok =>
  if ok = true then
  (b1 (BF) fun ae =>
  some ae)
  else
  (b2 (DS Ab Af) fun l l2 =>
  b2 (Cw Ab Af) fun l3 l4 =>
  b1 (CX l3 l4) fun n =>
  b1 (FY l l2) fun n2 =>
  if n2 ≠ n then
  (some false)
  else
  (b3 (LX l l2 hour Bx m) fun l5 l6 n3 =>
  b3 (if n ≠ 0 then
  (some (n, [], []))
  else
  (b1 (if hour < 0 then
  (some true)
  else
  (if (Af.length : Int) ≤ hour then
  (some true)
  else
  (if Bx < 0 then
  (some true)
  else
  (some (decide ((Ab.length : Int) ≤ Bx)))))) fun k =>
  if k = true then
  (some (1, [], []))
  else
  (b1 (if m < 0 then
  (some true)
  else
  (some (decide (2 < m)))) fun k2 =>
  if k2 = true then
  (some (3, [], []))
  else
  (b2 (DS Ab Af) fun l7 l8 =>
  ix l8 hour fun x =>
  ix x Bx fun _x2 =>
  bv (x.set (Bx : Int).toNat m) fun l9 =>
  bv (l8.set (hour : Int).toNat l9) fun ab =>
  some (n, l7, ab))))) fun e_ a6 aa =>
  b1 (if e_ ≠ n3 then
  (some true)
  else
  (b1 (Di l5 l6 a6 aa) fun ah =>
  some (!ah))) fun k3 =>
  if k3 = true then
  (some false)
  else
  (b1 (gd (Cl 0 ∧ Cl (l6.length : Int)) <|
  CA (Int.toNat ((l6.length : Int) - 0)) 0 l6) fun _ad =>
  b0 (gd (Cl 0 ∧ Cl (l5.length : Int)) <|
  CB (Int.toNat ((l5.length : Int) - 0)) 0 l5) <|
  b1 (Di l l2 Ab Af) fun ai =>
  if ai = true then
  (b1 (BF) fun aj =>
  some aj)
  else
  (some false))))
def Fg : Bc → Int → Option Int
  | [], n2 =>
  some n2
  | _x :: a6, n2 =>
  gd (Cl (2 * n2)) <|
  Fg a6 (2 * n2)
def DV (Ab _Af : Bc) : Option Int :=
  b1 (Fg Ab 1) fun n =>
  some n
def Gv : Nat → Int → Option Int
  | 0, a6 =>
  some a6
  | aa + 1, a6 =>
  gd ((2 : Int) ≠ 0 ∧ Cl (Int.tdiv a6 2)) <|
  Gv aa (Int.tdiv a6 2)
def Gj (BO Bx : Int) : Option Bool :=
  b1 (gd (Cl 0 ∧ Cl Bx) <|
  Gv (Int.toNat (Bx - 0)) BO) fun a6 =>
  some (decide ((Int.tmod a6 2) = 1))
def HF : Option Bool :=
  some false
def Ej (Ab Af : Bc) (AZ : Int) (a6 : Bc → Bc → Int → Int → Option (Bool)) (x : List Int) : Nat → Int → Option Bool
  | 0, _k =>
  HF
  | aa + 1, k =>
  ix x k fun x2 =>
  b1 (a6 Ab Af AZ x2) fun ab =>
  if ab = true then
  (some true)
  else
  (Ej Ab Af AZ a6 x aa (k + 1))
def IS (a6 : Bc → Bc → Int → Int → Option (Bool)) (Ab Af : Bc) (AZ Bx : Int) : Option Bool :=
  b1 (Gj AZ Bx) fun ok =>
  if ok = true then
  (some false)
  else
  (ix Ab Bx fun x =>
  if (x.length : Int) = 0 then
  (some true)
  else
  (gd (Cl 0 ∧ Cl (x.length : Int)) <|
  Ej Ab Af AZ a6 x (Int.toNat ((x.length : Int) - 0)) 0))
def Dv : Nat → Bc → Bc → Int → Int → Option Bool
  | 0, _, _, _, _ => none
  | fu + 1, Ab, Af, AZ, Bx =>
  IS (Dv fu) Ab Af AZ Bx
def DJ (Ab Af : Bc) (AZ : Int) : Bc → Int → Int → Int → Option Int
  | [], _i, aa, _a6 =>
  some aa
  | _x :: ab, i, aa, a6 =>
  b1 (Dv FU Ab Af AZ i) fun ok =>
  if ok = true then
  (gd (Cl (aa + a6)) <|
  gd (Cl (2 * a6)) <|
  DJ Ab Af AZ ab (i + 1) (aa + a6) (2 * a6))
  else
  (gd (Cl (2 * a6)) <|
  DJ Ab Af AZ ab (i + 1) aa (2 * a6))
def Jl (Ab Af : Bc) (AZ : Int) : Option Int :=
  b1 (DJ Ab Af AZ Ab 0 0 1) fun out =>
  some out
def ID : Option Bool :=
  some true
def Fk (Ab Af : Bc) (AZ : Int) : List Int → Int → Option Bool
  | [], _i =>
  ID
  | x :: a6, i =>
  b1 (if x = 1 then
  (b1 (Dv FU Ab Af AZ i) fun ok =>
  if (!ok) = true then
  (some true)
  else
  (if x = 2 then
  (b1 (Dv FU Ab Af AZ i) fun aa =>
  some aa)
  else
  (some false)))
  else
  (if x = 2 then
  (b1 (Dv FU Ab Af AZ i) fun ab =>
  some ab)
  else
  (some false))) fun k =>
  if k = true then
  (some false)
  else
  (Fk Ab Af AZ a6 (i + 1))
def II (Ab Af : Bc) (marks : List Int) (AZ : Int) : Option Bool :=
  Fk Ab Af AZ marks 0
def G7 (Ab Af : Bc) (hour AZ : Int) : Option Bool :=
  ix Af hour fun x =>
  b1 (II Ab Af x AZ) fun ok =>
  some ok
def HW (_Ab _Af : Bc) (rows : List (List Bool)) (hour BO : Int) : Option Bool :=
  ix rows hour fun x =>
  ix x BO fun x2 =>
  some x2
def LR (Ab Af : Bc) (hour AZ : Int) : Option (Bool × Int) :=
  b2 (Cx Ab Af) fun d n =>
  if n ≠ 0 then
  (some (false, n))
  else
  (gd (Cl ((Af.length : Int) - 1)) <|
  b1 (E3 hour 0 ((Af.length : Int) - 1)) fun ok =>
  if (!ok) = true then
  (some (false, 1))
  else
  (b4 d fun a6 aa _BW rows =>
  b1 (BX a6 aa) fun n2 =>
  gd (Cl (n2 - 1)) <|
  b1 (E3 AZ 0 (n2 - 1)) fun ab =>
  if (!ab) = true then
  (some (false, 3))
  else
  (b1 (HW a6 aa rows hour AZ) fun ad =>
  some (ad, 0))))
def C3 (Ab Af : Bc) (hour AZ : Int) : Option Bool :=
  b1 (Dw Ab Af) fun ok =>
  if ok = true then
  (b1 (BF) fun a6 =>
  some a6)
  else
  (b2 (DS Ab Af) fun l l2 =>
  b2 (Cw Ab Af) fun l3 l4 =>
  b1 (CX l3 l4) fun n =>
  b1 (b1 (if n = 0 then
  (if AZ < 0 then
  (some true)
  else
  (b1 (DV l3 l4) fun n2 =>
  some (decide (n2 ≤ AZ))))
  else
  (some false)) fun k =>
  if k = true then
  (some 3)
  else
  (some n)) fun e_ =>
  b1 (if e_ = 0 then
  (b1 (Jl l3 l4 AZ) fun n4 =>
  some n4)
  else
  (some 0)) fun n3 =>
  b1 (if n = 0 then
  (b1 (if 0 ≤ hour then
  (some (decide (hour < (Af.length : Int))))
  else
  (some false)) fun k2 =>
  if k2 = true then
  (some e_)
  else
  (some 1))
  else
  (some n)) fun v =>
  b1 (if v = 0 then
  (b1 (G7 l3 l4 hour AZ) fun aa =>
  some aa)
  else
  (some false)) fun ab =>
  b2 (J7 l l2 AZ) fun n5 n6 =>
  b2 (LR l l2 hour AZ) fun ad n7 =>
  if n6 = e_ then
  (if n7 = v then
  (if n5 = n3 then
  (if ad = ab then
  (b1 (Di l l2 Ab Af) fun ae =>
  if ae = true then
  (b1 (BF) fun ah =>
  some ah)
  else
  (some false))
  else
  (some false))
  else
  (some false))
  else
  (some false))
  else
  (some false))
def ET (Ab Af : Bc) (hour : Int) : Nat → (List Int) → Int → Option (List Int)
  | 0, _, _ => none
  | ab + 1, a6, BO =>
  b1 (DV Ab Af) fun n =>
  if BO < n then
  (b1 (G7 Ab Af hour BO) fun ok =>
  if ok = true then
  (ap a6 [BO] fun aa =>
  gd (Cl (BO + 1)) <|
  ET Ab Af hour ab aa (BO + 1))
  else
  (gd (Cl (BO + 1)) <|
  ET Ab Af hour ab a6 (BO + 1)))
  else
  (some a6)
def Gd (Ab Af : Bc) (hour : Int) : Option (List Int) :=
  b1 (ET Ab Af hour FU [] 0) fun out =>
  some out
def EC (Ab Af : Bc) : Bc → Int → Int → Option Int
  | [], _h, n2 =>
  some n2
  | _x :: a6, h, n2 =>
  b1 (Gd Ab Af h) fun l =>
  gd (Cl (n2 * (l.length : Int))) <|
  EC Ab Af a6 (h + 1) (n2 * (l.length : Int))
def Ca (Ab Af : Bc) : Option Int :=
  b1 (EC Ab Af Af 0 1) fun n =>
  some n
def G1 (Ab Af : Bc) (IL : Int) : Option Bool :=
  b2 (Cw Ab Af) fun l l2 =>
  b1 (CX l l2) fun n =>
  if n = 0 then
  (b1 (Ca l l2) fun n2 =>
  some (decide (IL < n2)))
  else
  (some false)
def ER (Bh : List Int) (Bx : Int) : List Int → Int → Int → Option Int
  | [], _h, n2 =>
  some n2
  | x :: a6, h, n2 =>
  b1 (b1 (Gj x Bx) fun ok =>
  if ok = true then
  (if h = 0 then
  (some true)
  else
  (gd (Cl (h - 1)) <|
  ix Bh (h - 1) fun x2 =>
  b1 (Gj x2 Bx) fun aa =>
  some (!aa)))
  else
  (some false)) fun k =>
  if k = true then
  (gd (Cl (n2 + 1)) <|
  ER Bh Bx a6 (h + 1) (n2 + 1))
  else
  (ER Bh Bx a6 (h + 1) n2)
def Hp (Bh : List Int) (Bx : Int) : Option Int :=
  b1 (ER Bh Bx Bh 0 0) fun n =>
  some n
def Fb (Bh : List Int) : Bc → Int → Int → Option Int
  | [], _i, n2 =>
  some n2
  | _x :: a6, i, n2 =>
  b1 (Hp Bh i) fun n3 =>
  gd (Cl (n2 + n3)) <|
  Fb Bh a6 (i + 1) (n2 + n3)
def CO (Ab _Af : Bc) (Bh : List Int) : Option Int :=
  b1 (Fb Bh Ab 0 0) fun n =>
  some n
def Iz (Ab Af : Bc) (Bh : List Int) : Option (Int × Int) :=
  b1 (CO Ab Af Bh) fun n2 =>
  some (n2, 0)
def E9 (Ab Af : Bc) (Bh : List Int) : List Int → Int → Option (Int × Int)
  | [], _h =>
  Iz Ab Af Bh
  | x :: a6, h =>
  b1 (DV Ab Af) fun n =>
  gd (Cl (n - 1)) <|
  b1 (Ev x 0 (n - 1)) fun ok =>
  if ok = true then
  (some (0, 3))
  else
  (b1 (G7 Ab Af h x) fun aa =>
  if (!aa) = true then
  (some (0, 8))
  else
  (E9 Ab Af Bh a6 (h + 1)))
def JJ (Ab Af : Bc) (Bh : List Int) : Option (Int × Int) :=
  if (Bh.length : Int) ≠ (Af.length : Int) then
  (some (0, 2))
  else
  (E9 Ab Af Bh Bh 0)
def Kt (n2 : Int) : Option (Int × Int) :=
  some (n2, 0)
def HJ (a6 aa : Bc) (rows : List (List Bool)) : List Int → Int → Int → Int → Option (Int × Int)
  | [], _k, n3, _before =>
  Kt n3
  | x :: ab, k, n3, before =>
  b1 (BX a6 aa) fun n4 =>
  gd (Cl (n4 - 1)) <|
  b1 (E3 x 0 (n4 - 1)) fun ok =>
  if (!ok) = true then
  (some (0, 3))
  else
  (b1 (HW a6 aa rows k x) fun ad =>
  if (!ad) = true then
  (some (0, 8))
  else
  (b1 (DR before x) fun n5 =>
  gd (Cl (n3 + n5)) <|
  HJ a6 aa rows ab (k + 1) (n3 + n5) x))
def LS (Ab Af : Bc) (Bh : List Int) : Option (Int × Int) :=
  b2 (Cx Ab Af) fun d n =>
  if n ≠ 0 then
  (some (0, n))
  else
  (if (Bh.length : Int) ≠ (Af.length : Int) then
  (some (0, 2))
  else
  (b4 d fun a6 aa _BW rows =>
  HJ a6 aa rows Bh 0 0 0))
def D4 : Option Int :=
  some (-1)
def B7 (f : (List Int) → Option Bool) : Bc → Int → Option Int
  | [], _k =>
  D4
  | x :: a6, k =>
  b1 (f x) fun ok =>
  if ok = true then
  (some k)
  else
  (B7 f a6 (k + 1))
def EM (s_ : Bc) (f : (List Int) → Option Bool) : Option Int :=
  B7 f s_ 0
def D2 (s_ : Bc) (f : (List Int) → Option Bool) : Option Bool :=
  b1 (EM s_ f) fun n =>
  some (decide (0 ≤ n))
def GR (x : List Int) (so : (List Int) → Option Bool) : Option Bool :=
  b1 (so x) fun ok =>
  some (!ok)
def HT (l : Bc) (so : (List Int) → Option Bool) : Option Bool :=
  b1 (D2 l (fun a6 : (List Int) => GR a6 so)) fun ok =>
  some (!ok)
def Gh (x : Int) (so : Int → Option Bool) : Option Bool :=
  b1 (so x) fun ok =>
  some (!ok)
def IQ (l : List Int) (so : Int → Option Bool) : Option Bool :=
  b1 (Db l (fun a6 : Int => Gh a6 so)) fun ok =>
  some (!ok)
def HY (n : Int) : Option Bool :=
  b1 (E3 n 0 99) fun ok =>
  some ok
def I3 (l : List Int) : Option Bool :=
  b1 (IQ l (fun a6 : Int => HY a6)) fun ok =>
  some ok
def IY (l : List Int) (Ab Af : Bc) (_rows : List (List Bool)) : Option Bool :=
  b1 (BX Ab Af) fun n =>
  some (decide ((l.length : Int) = n))
def It : Option (Int × Int) :=
  some (0, 8)
def J0 : Option (Int × Int) :=
  It
def G6 (table : Bc) (k2 : Int) (x : List Int) (x2 : Int) (a6 : Option (Int × Int)) : List Int → Option (Int × Int)
  | [] =>
  a6
  | x4 :: aa =>
  ix x x2 fun x5 =>
  gd (Cl (k2 - 1)) <|
  ix table (k2 - 1) fun x6 =>
  ix x6 x4 fun x7 =>
  b1 (DR x4 x2) fun n3 =>
  gd (Cl (x7 + n3)) <|
  if (x7 + n3) < x5 then
  J0
  else
  G6 table k2 x x2 a6 aa
def JE (k2 : Int) (a6 : Int → Option (Int × Int)) : Option (Int × Int) :=
  a6 (k2 + 1)
def EH (table a6 aa : Bc) (rows : List (List Bool)) (k2 : Int) (x : List Int) (ab : Int → Option (Int × Int)) : List Int → Option (Int × Int)
  | [] =>
  JE k2 ab
  | x2 :: ad =>
  b1 (if k2 = 0 then
  (ix x x2 fun x3 =>
  b1 (JN x2) fun n2 =>
  some (decide (n2 < x3)))
  else
  (some false)) fun k3 =>
  if k3 = true then
  It
  else
  (if k2 = 0 then
  EH table a6 aa rows k2 x ab ad
  else
  (gd (Cl (k2 - 1)) <|
  b1 (BA a6 aa rows (k2 - 1)) fun y2 =>
  G6 table k2 x x2 (EH table a6 aa rows k2 x ab ad) y2))
def G2 (table : Bc) : List Int → Int → Option Int
  | [], a6 =>
  some a6
  | x8 :: aa, a6 =>
  gd (Cl ((table.length : Int) - 1)) <|
  ix table ((table.length : Int) - 1) fun x9 =>
  ix x9 x8 fun ab =>
  b1 (FV a6 [ab]) fun n4 =>
  G2 table aa n4
def JQ (table a6 aa : Bc) (rows : List (List Bool)) : Option (Int × Int) :=
  b1 (gd (Cl ((table.length : Int) - 1)) <|
  b1 (BA a6 aa rows ((table.length : Int) - 1)) fun y3 =>
  G2 table y3 100) fun out =>
  some (out, 0)
def DX (table a6 aa : Bc) (rows : List (List Bool)) : Bc → Int → Option (Int × Int)
  | [], _k2 =>
  JQ table a6 aa rows
  | x :: ab, k2 =>
  b1 (BA a6 aa rows k2) fun y =>
  EH table a6 aa rows k2 x (DX table a6 aa rows ab) y
def Lw (Ab Af table : Bc) : Option (Int × Int) :=
  b2 (Gg Ab Af) fun d n =>
  if n ≠ 0 then
  (some (0, n))
  else
  (b4 d fun a6 aa _BW rows =>
  b1 (if (table.length : Int) ≠ (Af.length : Int) then
  (some true)
  else
  (b1 (HT table (fun ab : (List Int) => IY ab a6 aa rows)) fun ok =>
  some (!ok))) fun k =>
  if k = true then
  (some (0, 2))
  else
  (b1 (HT table (fun ab : (List Int) => I3 ab)) fun ad =>
  if (!ad) = true then
  (some (0, 3))
  else
  (DX table a6 aa rows table 0)))
def EX (x : Int) : Bc → Bc → Option Bc
  | [], a6 =>
  some a6
  | x2 :: aa, a6 =>
  ap [x] x2 fun l3 =>
  ap a6 [l3] fun l4 =>
  EX x aa l4
def E4 (l : Bc) : List Int → Bc → Option Bc
  | [], a6 =>
  some a6
  | x :: ab, a6 =>
  b1 (EX x l a6) fun aa =>
  E4 l ab aa
def JF (a6 : Bc → Bc → Int → Option (Bc)) (Ab Af : Bc) (hour : Int) : Option Bc :=
  if hour = (Af.length : Int) then
  (some [[]])
  else
  (gd (Cl (hour + 1)) <|
  b1 (a6 Ab Af (hour + 1)) fun l =>
  b1 (Gd Ab Af hour) fun l2 =>
  b1 (E4 l l2 []) fun out =>
  some out)
def Fm : Nat → Bc → Bc → Int → Option Bc
  | 0, _, _, _ => none
  | fu + 1, Ab, Af, hour =>
  JF (Fm fu) Ab Af hour
def Eg (Ab Af : Bc) : Bc → Int → Option Int
  | [], a6 =>
  some a6
  | x2 :: ab, a6 =>
  b1 (CO Ab Af x2) fun n2 =>
  bv (if n2 < a6 then n2 else a6) fun aa =>
  Eg Ab Af ab aa
def Ds (Ab Af : Bc) (a6 : Int) : Bc → Bc → Option Bc
  | [], aa =>
  some aa
  | x3 :: ad, aa =>
  b1 (CO Ab Af x3) fun n3 =>
  if n3 = a6 then
  (ap aa [x3] fun ab =>
  Ds Ab Af a6 ad ab)
  else
  (Ds Ab Af a6 ad aa)
def FJ (Ab Af : Bc) : Option Bc :=
  b1 (Fm FU Ab Af 0) fun l =>
  ix l 0 fun x =>
  b1 (CO Ab Af x) fun n =>
  b1 (Eg Ab Af l n) fun a6 =>
  b1 (Ds Ab Af a6 l []) fun out =>
  some out
def Ig (a6 : Option (Int × Int)) : Option (Int × Int) :=
  a6
def EA (x2 : List Int) (a6 : Option (Int × Int)) : Nat → Int → Option (Int × Int)
  | 0, _s_ =>
  Ig a6
  | aa + 1, s_ =>
  ix x2 s_ fun x3 =>
  b1 (Ev x3 0 99) fun ok =>
  if ok = true then
  (some (0, 3))
  else
  (EA x2 a6 aa (s_ + 1))
def Fv (i : Int) (a6 : Int → Int → Option (Int × Int)) (aa : Int) : Option (Int × Int) :=
  a6 (i + 1) aa
def D6 (Ab Af table : Bc) (h3 i x5 x6 aa : Int) (l3 : List Int) (a6 : Int → Int → Option (Int × Int)) : List Int → Int → Option (Int × Int)
  | [], _k =>
  Fv i a6 aa
  | x7 :: ab, k =>
  gd ((0 ≤ k ∧ k ≤ (k + 1)) ∧ (k + 1) ≤ l3.length) <|
  bv (sl l3 k (k + 1)) fun ad =>
  b1 (CO Ab Af [x7, x5]) fun n3 =>
  b1 (CO Ab Af ad) fun n4 =>
  gd (Cl (n3 - n4)) <|
  gd (Cl (h3 - 1)) <|
  ix table (h3 - 1) fun x8 =>
  ix x8 x7 fun x9 =>
  gd (Cl (x9 + (n3 - n4))) <|
  if (x9 + (n3 - n4)) < x6 then
  (some (0, 8))
  else
  (D6 Ab Af table h3 i x5 x6 aa l3 a6 ab (k + 1))
def Ib (h3 : Int) (a6 : Int → Int → Option (Int × Int)) (aa : Int) : Option (Int × Int) :=
  a6 (h3 + 1) aa
def Ce (Ab Af table : Bc) (h3 : Int) (x4 l : List Int) (aa : Int → Int → Option (Int × Int)) : List Int → Int → Int → Option (Int × Int)
  | [], _i, a6 =>
  Ib h3 aa a6
  | x5 :: ae, i, a6 =>
  ix x4 x5 fun x6 =>
  b1 (gd (Cl ((table.length : Int) - 1)) <|
  if h3 = ((table.length : Int) - 1) then
  (bv (if x6 < a6 then x6 else a6) fun ad =>
  some ad)
  else
  (some a6)) fun ab =>
  if h3 = 0 then
  (gd ((0 ≤ i ∧ i ≤ (i + 1)) ∧ (i + 1) ≤ l.length) <|
  bv (sl l i (i + 1)) fun l2 =>
  b1 (CO Ab Af l2) fun n2 =>
  if n2 < x6 then
  (some (0, 8))
  else
  (Fv i (Ce Ab Af table h3 x4 l aa ae) ab))
  else
  (gd (Cl (h3 - 1)) <|
  b1 (Gd Ab Af (h3 - 1)) fun l3 =>
  D6 Ab Af table h3 i x5 x6 ab l3 (Ce Ab Af table h3 x4 l aa ae) l3 0)
def Ic (out : Int) : Option (Int × Int) :=
  some (out, 0)
def B2 (Ab Af table : Bc) : Bc → Int → Int → Option (Int × Int)
  | [], _h3, a6 =>
  Ic a6
  | x4 :: aa, h3, a6 =>
  b1 (Gd Ab Af h3) fun l =>
  Ce Ab Af table h3 x4 l (B2 Ab Af table aa) l 0 a6
def Ia (Ab Af table : Bc) : Option (Int × Int) :=
  B2 Ab Af table table 0 99
def CY (Ab Af table : Bc) : Bc → Option (Int × Int)
  | [] =>
  Ia Ab Af table
  | x2 :: a6 =>
  gd (Cl 0 ∧ Cl (x2.length : Int)) <|
  EA x2 (CY Ab Af table a6) (Int.toNat ((x2.length : Int) - 0)) 0
def H4 (Ab Af table : Bc) : Option (Int × Int) :=
  CY Ab Af table table
def EJ (Ab Af table : Bc) : Bc → Option (Int × Int)
  | [] =>
  H4 Ab Af table
  | x :: a6 =>
  b1 (DV Ab Af) fun n =>
  if (x.length : Int) ≠ n then
  (some (0, 2))
  else
  (EJ Ab Af table a6)
def HU (Ab Af table : Bc) : Option (Int × Int) :=
  if (table.length : Int) ≠ (Af.length : Int) then
  (some (0, 2))
  else
  (EJ Ab Af table table)
def Fw (Ab Af : Bc) (Bh : List Int) (table : Bc) : Option Bool :=
  b1 (b1 (Dw Ab Af) fun ok =>
  if ok = true then
  (some true)
  else
  (b1 (G1 Ab Af 2500) fun ae =>
  if ae = true then
  (some true)
  else
  (if 12 < (Bh.length : Int) then
  (some true)
  else
  (b1 (Gl table 10 70) fun ah =>
  some ah)))) fun k =>
  if k = true then
  (b1 (BF) fun ai =>
  some ai)
  else
  (b2 (DS Ab Af) fun l l2 =>
  b1 (Ho Bh) fun l3 =>
  b1 (Fi table) fun l4 =>
  b2 (Cw Ab Af) fun l5 l6 =>
  b1 (CX l5 l6) fun n =>
  b2 (if n = 0 then
  (b2 (JJ l5 l6 Bh) fun n3 n4 =>
  some (n4, n3))
  else
  (some (n, 0))) fun v n2 =>
  b2 (LS l l2 l3) fun n5 n6 =>
  b1 (if n6 ≠ v then
  (some true)
  else
  (some (decide (n5 ≠ n2)))) fun k2 =>
  if k2 = true then
  (some false)
  else
  (b1 (b1 (if n = 0 then
  (b1 (Ca l5 l6) fun n7 =>
  some (decide (n7 = 0)))
  else
  (some false)) fun k3 =>
  if k3 = true then
  (some 7)
  else
  (some n)) fun e_ =>
  b3 (IJ l l2) fun l7 n8 n9 =>
  b2 (Ja l l2) fun l8 aj =>
  b2 (Lw l l2 l4) fun aa ab =>
  b1 (if n9 ≠ e_ then
  (some true)
  else
  (if aj ≠ e_ then
  (some true)
  else
  (b1 (Di l l2 Ab Af) fun ak =>
  if (!ak) = true then
  (some true)
  else
  (b1 (C2 l3 Bh) fun al =>
  if (!al) = true then
  (some true)
  else
  (b1 (E8 l4 table) fun ao =>
  some (!ao)))))) fun k4 =>
  if k4 = true then
  (some false)
  else
  (if e_ ≠ 0 then
  (if ab = e_ then
  (gd (Cl ((l7.length : Int) + (l8.length : Int))) <|
  if ((l7.length : Int) + (l8.length : Int)) = 0 then
  (if n8 = 0 then
  (if aa = 0 then
  (b1 (BF) fun aq =>
  some aq)
  else
  (some false))
  else
  (some false))
  else
  (some false))
  else
  (some false))
  else
  (b1 (FJ l5 l6) fun l9 =>
  ix l9 0 fun x =>
  b1 (CO l5 l6 x) fun ad =>
  b1 (if n8 ≠ ad then
  (some true)
  else
  (b1 (C2 l7 x) fun ar =>
  some (!ar))) fun k5 =>
  if k5 = true then
  (some false)
  else
  (b2 (HU l5 l6 l8) fun au av =>
  b1 (if av ≠ 0 then
  (some true)
  else
  (some (decide (au ≠ ad)))) fun k6 =>
  if k6 = true then
  (some false)
  else
  (b2 (HU l5 l6 table) fun aw ax =>
  if aa = aw then
  (if ab = ax then
  (b1 (BF) fun a6 =>
  some a6)
  else
  (some false))
  else
  (some false)))))))
def D0 (i : Int) : Bc → Bool → Option Bool
  | [], a6 =>
  some a6
  | x2 :: aa, a6 =>
  if a6 = true then
  (b1 (Hp x2 i) fun n =>
  D0 i aa (decide (0 < n)))
  else
  (D0 i aa false)
def E5 (l : Bc) : Bc → Int → (List Int) → Option (List Int)
  | [], _i, a6 =>
  some a6
  | _x :: ad, i, a6 =>
  b1 (b1 (D0 i l true) fun ae =>
  if ae = true then
  (ap a6 [i] fun aa =>
  some aa)
  else
  (some a6)) fun ab =>
  E5 l ad (i + 1) ab
def JX (Ab Af : Bc) : Option (List Int) :=
  b1 (Fm FU Ab Af 0) fun l =>
  b1 (E5 l Ab 0 []) fun out =>
  some out
def HA : Option Bool :=
  some false
def D9 (b : List Int) : List Int → Int → Option Bool
  | [], _i =>
  HA
  | x :: a6, i =>
  ix b i fun x2 =>
  if x ≠ x2 then
  (some (decide (x < x2)))
  else
  (D9 b a6 (i + 1))
def Ht (a b : List Int) : Option Bool :=
  if (a.length : Int) ≠ (b.length : Int) then
  (some (decide ((a.length : Int) < (b.length : Int))))
  else
  (D9 b a 0)
def Ey (x : List Int) : Bc → Int → (List Int) → Option (List Int)
  | [], _i, l3 =>
  some l3
  | _x2 :: a6, i, l3 =>
  b1 (Hp x i) fun n =>
  if 0 < n then
  (ap l3 [i] fun l4 =>
  Ey x a6 (i + 1) l4)
  else
  (Ey x a6 (i + 1) l3)
def FE (Ab : Bc) : Bc → Int → (List Int) → Option (List Int)
  | [], _k, a6 =>
  some a6
  | x :: ab, k, a6 =>
  b1 (b1 (Ey x Ab 0 []) fun l2 =>
  b1 (if k = 0 then
  (some true)
  else
  (b1 (Ht l2 a6) fun ok =>
  some ok)) fun k2 =>
  if k2 = true then
  (some l2)
  else
  (some a6)) fun aa =>
  FE Ab ab (k + 1) aa
def Ko (Ab Af : Bc) : Option (List Int) :=
  b1 (Fm FU Ab Af 0) fun l =>
  b1 (FE Ab l 0 []) fun a6 =>
  some a6
def EW (Bx : Int) : Bc → Int → Int → Int → Option (Int × Int)
  | [], _k, a6, aa =>
  some (a6, aa)
  | x :: ae, k, a6, aa =>
  b1 (Hp x Bx) fun n =>
  b2 (if k = 0 then
  (some (n, n))
  else
  (some (a6, aa))) fun ab ad =>
  EW Bx ae (k + 1) (if n < ab then n else ab) (if n > ad then n else ad)
def JV (Ab Af : Bc) (Bx : Int) : Option (Int × Int) :=
  b1 (FJ Ab Af) fun l =>
  b2 (EW Bx l 0 0 0) fun a6 aa =>
  some (a6, aa)
def Jv (BO i : Int) : Option Bool :=
  gd (0 ≤ i ∧ i < 64) <|
  some (decide ((Ji (shr BO i) 1) = 0))
def GA (a6 aa : Bc) (rows : List (List Bool)) : Nat → Int → (List Int) → Option (List Int)
  | 0, _k, ab =>
  some ab
  | ae + 1, k, ab =>
  b2 (Ex a6 aa rows (fun ah : Int => Jv ah k)) fun l _n2 =>
  if l = [] then
  (ap ab [k] fun ad =>
  GA a6 aa rows ae (k + 1) ad)
  else
  (GA a6 aa rows ae (k + 1) ab)
def LW (Ab Af : Bc) : Option ((List Int) × Int) :=
  b2 (Gg Ab Af) fun d n =>
  if n ≠ 0 then
  (some ([], n))
  else
  (b1 (b4 d fun a6 aa _BW rows =>
  gd (Cl 0 ∧ Cl (Ab.length : Int)) <|
  GA a6 aa rows (Int.toNat ((Ab.length : Int) - 0)) 0 []) fun out =>
  some (out, 0))
def Gi (Ab Af : Bc) (Bx : Int) : Option Bool :=
  b1 (b1 (Dw Ab Af) fun ok =>
  if ok = true then
  (some true)
  else
  (b1 (G1 Ab Af 2500) fun ab =>
  some ab)) fun k =>
  if k = true then
  (b1 (BF) fun ad =>
  some ad)
  else
  (b2 (DS Ab Af) fun l l2 =>
  b2 (Cw Ab Af) fun l3 l4 =>
  b1 (CX l3 l4) fun n =>
  b1 (b1 (if n = 0 then
  (if Bx < 0 then
  (some true)
  else
  (some (decide ((Ab.length : Int) ≤ Bx))))
  else
  (some false)) fun k2 =>
  if k2 = true then
  (some 1)
  else
  (some n)) fun v =>
  b4 (if n = 0 then
  (b1 (Ca l3 l4) fun n2 =>
  if n2 = 0 then
  (if v = 0 then
  (some (7, 7, [], []))
  else
  (some (7, v, [], [])))
  else
  (b1 (JX l3 l4) fun l5 =>
  b1 (Ko l3 l4) fun l6 =>
  some (n, v, l5, l6)))
  else
  (some (n, v, [], []))) fun e_ v2 sure ae =>
  b2 (if v2 = 0 then
  (b2 (JV l3 l4 Bx) fun n3 n4 =>
  some (n3, n4))
  else
  (some (0, 0))) fun a6 aa =>
  b2 (LW l l2) fun l7 n5 =>
  b2 (Ly l l2) fun l8 n6 =>
  b3 (KO l l2 Bx) fun n7 n8 n9 =>
  if n5 = e_ then
  (if n6 = e_ then
  (if n9 = v2 then
  (if n7 = a6 ∧ n8 = aa then
  (b1 (C2 l7 sure) fun ah =>
  if ah = true then
  (b1 (C2 l8 ae) fun ai =>
  if ai = true then
  (b1 (Di l l2 Ab Af) fun aj =>
  if aj = true then
  (b1 (BF) fun ak =>
  some ak)
  else
  (some false))
  else
  (some false))
  else
  (some false))
  else
  (some false))
  else
  (some false))
  else
  (some false))
  else
  (some false))
def EY : Bc → Bc → Option Bc
  | [], a6 =>
  some a6
  | x :: aa, a6 =>
  ap ([] : List Int) x fun l =>
  ap a6 [l] fun l2 =>
  EY aa l2
def Fy (Ab Af : Bc) (hour Bx mark : Int) : Option (Bc × Bc) :=
  b1 (EY Af []) fun a6 =>
  ix a6 hour fun x2 =>
  ix x2 Bx fun _x3 =>
  bv (x2.set (Bx : Int).toNat mark) fun l3 =>
  bv (a6.set (hour : Int).toNat l3) fun out =>
  some (Ab, out)
def DN (Ab Af : Bc) (h : Int) (x : List Int) : Bc → Int → Int → Int → Int → Option (Int × Int × Int)
  | [], _i, a6, ab, aa =>
  some (a6, ab, aa)
  | _x2 :: ad, i, a6, ab, aa =>
  ix x i fun x3 =>
  if x3 ≠ 0 then
  (DN Ab Af h x ad (i + 1) a6 ab aa)
  else
  (b2 (Fy Ab Af h i 1) fun l l2 =>
  b1 (Ca l l2) fun n =>
  b2 (Fy Ab Af h i 2) fun l3 l4 =>
  b1 (Ca l3 l4) fun n2 =>
  b1 (if a6 < 0 then
  (some true)
  else
  (some (decide ((if n2 > n then n2 else n) < aa)))) fun k =>
  if k = true then
  (DN Ab Af h x ad (i + 1) h i (if n2 > n then n2 else n))
  else
  (DN Ab Af h x ad (i + 1) a6 ab aa))
def FI (Ab Af : Bc) : Bc → Int → Int → Int → Int → Option (Int × Int × Int)
  | [], _h, a6, ab, aa =>
  some (a6, ab, aa)
  | x :: ai, h, a6, ab, aa =>
  b3 (DN Ab Af h x Ab 0 a6 ab aa) fun ad ah ae =>
  FI Ab Af ai (h + 1) ad ah ae
def Ks (Ab Af : Bc) : Option (Int × Int × Int) :=
  b3 (FI Ab Af Af 0 (-1) (-1) 0) fun hour Bx IL =>
  some (hour, Bx, IL)
def DK (BO : Int) : Nat → (List Int) → (List Int) → Int → Option ((List Int) × (List Int))
  | 0, _, _, _ => none
  | ab + 1, l3, a6, i =>
  if i < (a6.length : Int) then
  (b1 (Gj BO i) fun ok =>
  if ok = true then
  (ap l3 [i] fun l4 =>
  ix a6 i fun _x2 =>
  bv (a6.set (i : Int).toNat 0) fun aa =>
  gd (Cl (i + 1)) <|
  DK BO ab l4 aa (i + 1))
  else
  (gd (Cl (i + 1)) <|
  DK BO ab l3 a6 (i + 1)))
  else
  (some (l3, a6))
def DM (Ab Af : Bc) (marks : List Int) : Nat → Bool → Int → Option Bool
  | 0, _, _ => none
  | aa + 1, a6, AZ =>
  b1 (DV Ab Af) fun n2 =>
  if AZ < n2 then
  (if a6 = true then
  (gd (Cl (AZ + 1)) <|
  DM Ab Af marks aa true (AZ + 1))
  else
  (b1 (II Ab Af marks AZ) fun ab =>
  gd (Cl (AZ + 1)) <|
  DM Ab Af marks aa ab (AZ + 1)))
  else
  (some a6)
def EG (Ab Af : Bc) (hour : Int) : Nat → (List Int) → Bool → Int → Option (List Int)
  | 0, _, _, _ => none
  | ad + 1, a6, found, BO =>
  b1 (DV Ab Af) fun n =>
  if BO < n then
  (b2 (ix Af hour fun x =>
  ap ([] : List Int) x fun l =>
  b2 (DK BO FU [] l 0) fun l2 marks =>
  b1 (DM Ab Af marks FU false 0) fun ae =>
  b1 (if ae = true then
  (if (!found) = true then
  (some true)
  else
  (b1 (Ht l2 a6) fun ah =>
  some ah))
  else
  (some false)) fun k =>
  if k = true then
  (some (l2, true))
  else
  (some (a6, found))) fun ab aa =>
  gd (Cl (BO + 1)) <|
  EG Ab Af hour ad ab aa (BO + 1))
  else
  (some a6)
def Jf (Ab Af : Bc) (hour : Int) : Option (List Int) :=
  b1 (EG Ab Af hour FU [] false 0) fun a6 =>
  some a6
def FZ (ab ad : Bc) (rows : List (List Bool)) (k : Int) : List Int → Int → Int → Int → Int → Option (Int × Int × Int)
  | [], _k2, a6, aa, n5 =>
  some (a6, aa, n5)
  | x2 :: ae, k2, a6, aa, n5 =>
  if x2 ≠ 0 then
  (FZ ab ad rows k ae (k2 + 1) a6 aa n5)
  else
  (b2 (Hr ab ad rows k k2) fun n6 n7 =>
  b1 (if a6 = (-1) ∧ aa = (-1) then
  (some true)
  else
  (some (decide ((if n7 > n6 then n7 else n6) < n5)))) fun k3 =>
  if k3 = true then
  (FZ ab ad rows k ae (k2 + 1) k k2 (if n7 > n6 then n7 else n6))
  else
  (FZ ab ad rows k ae (k2 + 1) a6 aa n5))
def Iy (ab ah : Bc) (rows : List (List Bool)) : Bc → Int → Int → Int → Int → Option (Int × Int × Int)
  | [], _k, a6, aa, n3 =>
  some (a6, aa, n3)
  | x :: ai, k, a6, aa, n3 =>
  b3 (FZ ab ah rows k x 0 a6 aa n3) fun ad ae n4 =>
  Iy ab ah rows ai (k + 1) ad ae n4
def MH (Ab Af : Bc) : Option (Int × Int × Int × Int) :=
  b2 (Gg Ab Af) fun d n =>
  if n ≠ 0 then
  (some (0, 0, 0, n))
  else
  (b3 (b4 d fun ab ad _BW rows =>
  Iy ab ad rows Af 0 (-1) (-1) 0) fun a6 aa n2 =>
  if a6 = (-1) ∧ aa = (-1) then
  (some (0, 0, 0, 6))
  else
  (some (a6, aa, n2, 0)))
def I1 (x : Int) : Option Bool :=
  some (decide (x ≠ x))
def Je (x y : Int) : Option Int :=
  b1 (I1 x) fun ok =>
  b1 (I1 y) fun a6 =>
  if ok = true then
  (if a6 = true then
  (some 0)
  else
  (some (-1)))
  else
  (if a6 = true then
  (some 1)
  else
  (if x < y then
  (some (-1))
  else
  (if y < x then
  (some 1)
  else
  (some 0))))
def EN (s1 s2 : List Int) : Option Int :=
  if (s1.length : Int) < (s2.length : Int) then
  (some (-1))
  else
  (some 0)
def CE (s1 s2 : List Int) : List Int → Int → Option Int
  | [], _k =>
  EN s1 s2
  | x :: a6, k =>
  if (s2.length : Int) ≤ k then
  (some 1)
  else
  (ix s2 k fun x2 =>
  b1 (Je x x2) fun n =>
  if n ≠ 0 then
  (some n)
  else
  (CE s1 s2 a6 (k + 1)))
def Gc (s1 s2 : List Int) : Option Int :=
  CE s1 s2 s1 0
def Hc (a6 : List (Int × Int)) : Nat → (List Int) → Int → Int → Option ((List (Int × Int)) × (List Int))
  | 0, _, _, _ => none
  | ab + 1, l2, i, aa =>
  if 0 < aa then
  (b1 (if (Ji aa 1) = 1 then
  (ap l2 [i] fun l4 =>
  some l4)
  else
  (some l2)) fun l3 =>
  gd (Cl (i + 1)) <|
  Hc a6 ab l3 (i + 1) (shr aa 1))
  else
  (some (a6, l2))
def Hl (aa ab : Bc) (k : Int) : Nat → Int → (List (Int × Int)) → (List Int) → Bool → Option ((List (Int × Int)) × (List Int))
  | 0, _k2, m4, a6, _found =>
  some (m4, a6)
  | ai + 1, k2, m4, a6, found =>
  b3 (b2 (b2 (Hw aa ab m4 k k2) fun n3 ad =>
  Hc ad FU [] 0 n3) fun m6 l =>
  b1 (if (!found) = true then
  (some true)
  else
  (if (l.length : Int) < (a6.length : Int) then
  (some true)
  else
  (if (l.length : Int) = (a6.length : Int) then
  (b1 (Gc l a6) fun n4 =>
  some (decide (n4 < 0)))
  else
  (some false)))) fun k3 =>
  if k3 = true then
  (some (m6, l, true))
  else
  (some (m6, a6, found))) fun m5 ah ae =>
  Hl aa ab k ai (k2 + 1) m5 ah ae
def Hk (k : Int) (m3 : List (Int × Int)) : List Int → (List (Int × Int)) → Option ((List (Int × Int)) × (List (Int × Int)))
  | [], a6 =>
  some (m3, a6)
  | x :: ab, a6 =>
  ap a6 [(k, x)] fun aa =>
  Hk k m3 ab aa
def Hj (a6 aa : Bc) : Nat → Int → (List (Int × Int)) → (List (Int × Int)) → Option (List (Int × Int))
  | 0, _k, _m, ab =>
  some ab
  | ah + 1, k, m, ab =>
  b2 (b2 (b1 (BX a6 aa) fun n2 =>
  gd (Cl 0 ∧ Cl n2) <|
  Hl a6 aa k (Int.toNat (n2 - 0)) 0 m [] false) fun m3 ad =>
  Hk k m3 ad ab) fun m2 ae =>
  Hj a6 aa ah (k + 1) m2 ae
def Lf (Ab Af : Bc) : Option ((List (Int × Int)) × Int) :=
  b2 (Cx Ab Af) fun d n =>
  if n ≠ 0 then
  (some ([], n))
  else
  (b1 (b4 d fun a6 aa BW _rows =>
  gd (Cl 0 ∧ Cl (Af.length : Int)) <|
  Hj a6 aa (Int.toNat ((Af.length : Int) - 0)) 0 BW []) fun out =>
  some (out, 0))
def Cn : Option Bool :=
  some true
def BE (s2 : List (Int × Int)) : List (Int × Int) → Int → Option Bool
  | [], _k =>
  Cn
  | x :: a6, k =>
  ix s2 k fun x2 =>
  if ¬ (x.1 = x2.1 ∧ x.2 = x2.2) then
  (some false)
  else
  (BE s2 a6 (k + 1))
def CI (s1 s2 : List (Int × Int)) : Option Bool :=
  if (s1.length : Int) ≠ (s2.length : Int) then
  (some false)
  else
  (BE s2 s1 0)
def HZ (a b : List (Int × Int)) : Option Bool :=
  b1 (CI a b) fun ok =>
  some ok
def DC (k3 : Int) : List Int → (List (Int × Int)) → Option (List (Int × Int))
  | [], a6 =>
  some a6
  | x4 :: ab, a6 =>
  ap a6 [(k3, x4)] fun aa =>
  DC k3 ab aa
def DD (l3 ab : Bc) (v2 a2 ah u3 n9 a6 ad : Int) : Bc → Int → (List (Int × Int)) → Option (Int × Int × Int × Int × Int × Int × Int × (List (Int × Int)))
  | [], _k3, aa =>
  some (v2, u3, a2, ah, n9, a6, ad, aa)
  | _x3 :: ai, k3, aa =>
  b1 (b1 (Jf l3 ab k3) fun l9 =>
  DC k3 l9 aa) fun ae =>
  DD l3 ab v2 a2 ah u3 n9 a6 ad ai (k3 + 1) ae
def DG (Ab Af : Bc) (hour Bx : Int) : Option Bool :=
  b1 (b1 (Dw Ab Af) fun ok =>
  if ok = true then
  (some true)
  else
  (some (decide ((Ab.length : Int) = 6)))) fun k =>
  if k = true then
  (b1 (BF) fun ak =>
  some ak)
  else
  (b2 (DS Ab Af) fun l l2 =>
  b2 (Cw Ab Af) fun l3 l4 =>
  b1 (CX l3 l4) fun n =>
  b8 (if n = 0 then
  (b4 (b1 (if hour < 0 then
  (some true)
  else
  (if (Af.length : Int) ≤ hour then
  (some true)
  else
  (if Bx < 0 then
  (some true)
  else
  (some (decide ((Ab.length : Int) ≤ Bx)))))) fun k2 =>
  if k2 = true then
  (some (l4, 1, 0, 0))
  else
  (ix Af hour fun x =>
  ix x Bx fun x2 =>
  if x2 ≠ 0 then
  (some (l4, 5, 0, 0))
  else
  (b2 (Fy l3 l4 hour Bx 1) fun l5 l6 =>
  b1 (Ca l5 l6) fun n3 =>
  b2 (Fy l3 l4 hour Bx 2) fun l7 l8 =>
  b1 (Ca l7 l8) fun n4 =>
  some (l4, n, n3, n4)))) fun a6 v2 a2 al =>
  b4 (b3 (Ks l3 a6) fun n6 n7 n8 =>
  if n6 < 0 then
  (some (6, 0, 0, 0))
  else
  (some (n, n8, n6, n7))) fun u2 n5 aa ad =>
  b4 (b1 (Ca l3 a6) fun ao =>
  if ao = 0 then
  (some (7, 0, 0, 0))
  else
  (some (u2, n5, aa, ad))) fun u3 n9 ab ae =>
  DD l3 a6 v2 a2 al u3 n9 ab ae Af 0 [])
  else
  (some (n, n, 0, 0, 0, 0, 0, []))) fun v u a b n2 ah ai aj =>
  b3 (Ki l l2 hour Bx) fun aq ar au =>
  b4 (MH l l2) fun av aw ax ay =>
  b2 (Lf l l2) fun az ba =>
  if au = v then
  (if ay = u then
  (if ba = n then
  (if aq = a then
  (if ar = b then
  (if av = ah ∧ aw = ai then
  (if ax = n2 then
  (b1 (HZ az aj) fun bb =>
  if bb = true then
  (b1 (Di l l2 Ab Af) fun bc =>
  if bc = true then
  (b1 (BF) fun bd =>
  some bd)
  else
  (some false))
  else
  (some false))
  else
  (some false))
  else
  (some false))
  else
  (some false))
  else
  (some false))
  else
  (some false))
  else
  (some false))
  else
  (some false))
def CL (i : Int) : List Int → Int → Option Int
  | [], a6 =>
  some a6
  | x2 :: aa, a6 =>
  b1 (Gj x2 i) fun ok =>
  if ok = true then
  (gd (Cl (a6 + 1)) <|
  CL i aa (a6 + 1))
  else
  (CL i aa a6)
def DA (l : List Int) : Nat → (List Int) → Int → Option (List Int)
  | 0, _, _ => none
  | aa + 1, l4, i =>
  if i < (l4.length : Int) then
  (b1 (b1 (CL i l 0) fun a6 =>
  b1 (if a6 = (l.length : Int) then
  (ix l4 i fun _x3 =>
  bv (l4.set (i : Int).toNat 1) fun l7 =>
  some l7)
  else
  (some l4)) fun l6 =>
  if a6 = 0 then
  (ix l6 i fun _x4 =>
  bv (l6.set (i : Int).toNat 2) fun l8 =>
  some l8)
  else
  (some l6)) fun l5 =>
  gd (Cl (i + 1)) <|
  DA l aa l5 (i + 1))
  else
  (some l4)
def DE (Ab Af : Bc) : Bc → Int → Bc → Option Bc
  | [], _h, a6 =>
  some a6
  | _x :: ad, h, a6 =>
  b1 (b1 (Gd Ab Af h) fun l =>
  gd (0 ≤ (Ab.length : Int) ∧ (Ab.length : Int) ≤ 1048576) <|
  bv (List.replicate ((Ab.length : Int) : Int).toNat 0 : List Int) fun l2 =>
  b1 (DA l FU l2 0) fun l3 =>
  ap a6 [l3] fun aa =>
  some aa) fun ab =>
  DE Ab Af ad (h + 1) ab
def Io (Ab Af : Bc) : Option Bc :=
  b1 (DE Ab Af Af 0 []) fun out =>
  some out
def GM (k3 : Int) (a6 : Int → Option Bool) : Option Bool :=
  a6 (k3 + 1)
def DB (k3 : Int) (x2 : List Int) (a6 : Int → Option Bool) : List Int → Int → Option Bool
  | [], _k4 =>
  GM k3 a6
  | x3 :: aa, k4 =>
  ix x2 k4 fun x4 =>
  if x3 ≠ x4 then
  (some false)
  else
  (DB k3 x2 a6 aa (k4 + 1))
def GJ : Option Bool :=
  b1 (BF) fun a6 =>
  some a6
def Cf (want : Bc) : Bc → Int → Option Bool
  | [], _k3 =>
  GJ
  | x :: a6, k3 =>
  ix want k3 fun x2 =>
  if (x.length : Int) ≠ (x2.length : Int) then
  (some false)
  else
  (DB k3 x2 (Cf want a6) x 0)
def Gf (Ab Af : Bc) : Option Bool :=
  b1 (b1 (Dw Ab Af) fun ok =>
  if ok = true then
  (some true)
  else
  (b1 (G1 Ab Af 2500) fun aa =>
  some aa)) fun k =>
  if k = true then
  (b1 (BF) fun ab =>
  some ab)
  else
  (b2 (DS Ab Af) fun l l2 =>
  b2 (Cw Ab Af) fun l3 l4 =>
  b1 (CX l3 l4) fun n =>
  b4 (if n = 0 then
  (b1 (Ca l3 l4) fun n2 =>
  if 0 < n2 then
  (b1 (FJ l3 l4) fun l5 =>
  b1 (Io l3 l4) fun l6 =>
  some (n, n2, (l5.length : Int), l6))
  else
  (some (7, n2, 0, [])))
  else
  (some (n, 0, 0, []))) fun v a6 ad want =>
  b2 (Kg l l2) fun n3 n4 =>
  b2 (KN l l2) fun n5 n6 =>
  b2 (Iv l l2) fun l7 n7 =>
  b1 (if n4 ≠ n then
  (some true)
  else
  (if n6 ≠ n then
  (some true)
  else
  (if n7 ≠ v then
  (some true)
  else
  (if n3 ≠ a6 then
  (some true)
  else
  (if n5 ≠ ad then
  (some true)
  else
  (if (l7.length : Int) ≠ (want.length : Int) then
  (some true)
  else
  (b1 (Di l l2 Ab Af) fun ae =>
  some (!ae)))))))) fun k2 =>
  if k2 = true then
  (some false)
  else
  (Cf want l7 0))
def J2 (Ab Af : Bc) (n : Int) : Option Bool :=
  b3 (IJ Ab Af) fun l _n2 _n3 =>
  b1 (b1 (if 0 < (l.length : Int) then
  (some (decide ((Int.tmod n 3) = 0)))
  else
  (some false)) fun k =>
  if k = true then
  (gd ((l.length : Int) ≠ 0) <|
  ix l (Int.tmod n (l.length : Int)) fun _x =>
  bv (l.set (Int.tmod n (l.length : Int) : Int).toNat (Int.tmod n 8)) fun l3 =>
  some l3)
  else
  (some l)) fun l2 =>
  b2 (Ja Ab Af) fun l4 _n4 =>
  b1 (b1 (if 0 < (l4.length : Int) then
  (some (decide ((Int.tmod n 2) = 0)))
  else
  (some false)) fun k2 =>
  if k2 = true then
  (gd ((l4.length : Int) ≠ 0) <|
  ix l4 (Int.tmod n (l4.length : Int)) fun x2 =>
  gd ((x2.length : Int) ≠ 0) <|
  ix x2 (Int.tmod n (x2.length : Int)) fun x3 =>
  gd (Cl ((Int.tmod n 5) - 2)) <|
  gd (Cl (x3 + ((Int.tmod n 5) - 2))) <|
  bv (x2.set (Int.tmod n (x2.length : Int) : Int).toNat (x3 + ((Int.tmod n 5) - 2))) fun r2 =>
  bv (l4.set (Int.tmod n (l4.length : Int) : Int).toNat r2) fun t2 =>
  some t2)
  else
  (some l4)) fun t =>
  b1 (B3 Ab Af (Int.tmod n 2) (Int.tmod n 3) (Int.tmod n 3)) fun ok =>
  if ok = true then
  (b1 (C3 Ab Af (Int.tmod n 2) (Int.tmod n 8)) fun a6 =>
  if a6 = true then
  (b1 (Fw Ab Af l2 t) fun aa =>
  if aa = true then
  (b1 (Gf Ab Af) fun ab =>
  if ab = true then
  (b1 (Gi Ab Af (Int.tmod n 3)) fun ad =>
  if ad = true then
  (b1 (DG Ab Af (Int.tmod n 2) (Int.tmod n 3)) fun ae =>
  some ae)
  else
  (some false))
  else
  (some false))
  else
  (some false))
  else
  (some false))
  else
  (some false)
def FL (k : Int) (a6 : Int → Option Bool) : Option Bool :=
  a6 (k + 1)
def C8 (k x : Int) (ak : Int → Option Bool) : Nat → Int → Option Bool
  | 0, _k2 =>
  FL k ak
  | ao + 1, k2 =>
  b2 (B8) fun _y _y2 =>
  b2 (Ja [[], [0], [1], [0, 2]] [[0, 0, 2, 1], [0, 0, 2, 0]]) fun l _n =>
  b2 (if (l.length : Int) ≠ 2 then
  (some (l, true))
  else
  (ix l 0 fun x2 =>
  if (x2.length : Int) ≠ 16 then
  (some (l, true))
  else
  (ix l 1 fun x3 =>
  gd ((1 : Int) ≠ 0) <|
  some (l, decide ((x3.length : Int) ≠ 16))))) fun table k3 =>
  if k3 = true then
  (some false)
  else
  (ix table 0 fun x4 =>
  ix table 1 fun x5 =>
  gd ((1 : Int) ≠ 0) <|
  ix ([2, 6] : List Int) 0 fun _x6 =>
  ix ([2, 6] : List Int) 1 fun _x7 =>
  ix x4 2 fun _x8 =>
  ix x5 8 fun _x9 =>
  b9 (if k2 = 0 then
  (some (x, 2, 1, 5, [2, 6], 1, 3, 1, table))
  else
  (if k2 = 1 then
  (some (0, x, 1, 5, [2, 6], 1, 3, 1, table))
  else
  (if k2 = 2 then
  (some (0, 2, x, 5, [2, 6], 1, 3, 1, table))
  else
  (if k2 = 3 then
  (some (0, 2, 1, x, [2, 6], 1, 3, 1, table))
  else
  (if k2 = 4 then
  (bv ([2, 6].set (0 : Int).toNat x) fun ab =>
  some (0, 2, 1, 5, ab, 1, 3, 1, table))
  else
  (if k2 = 5 then
  (bv ([2, 6].set (1 : Int).toNat x) fun ad =>
  some (0, 2, 1, 5, ad, 1, 3, 1, table))
  else
  (if k2 = 6 then
  (some (0, 2, 1, 5, [2, 6], x, 3, 1, table))
  else
  (if k2 = 7 then
  (some (0, 2, 1, 5, [2, 6], 1, x, 1, table))
  else
  (if k2 = 8 then
  (some (0, 2, 1, 5, [2, 6], 1, 3, x, table))
  else
  (if k2 = 9 then
  (bv (x4.set (2 : Int).toNat x) fun l2 =>
  bv (table.set (0 : Int).toNat l2) fun ah =>
  some (0, 2, 1, 5, [2, 6], 1, 3, 1, ah))
  else
  (gd (k2 = 10) <|
  bv (x5.set (8 : Int).toNat x) fun l3 =>
  bv (table.set (1 : Int).toNat l3) fun ai =>
  some (0, 2, 1, 5, [2, 6], 1, 3, 1, ai)))))))))))) fun aa al hour BO Bh a6 ae Bx aj =>
  b1 (b1 (B3 [[], [aa], [1], [0, al]] [[0, aa, 2, 1], [0, 0, 2, 0]] a6 ae x) fun ok =>
  if (!ok) = true then
  (some true)
  else
  (b1 (C3 [[], [aa], [1], [0, al]] [[0, aa, 2, 1], [0, 0, 2, 0]] hour BO) fun aq =>
  if (!aq) = true then
  (some true)
  else
  (b1 (Fw [[], [aa], [1], [0, al]] [[0, aa, 2, 1], [0, 0, 2, 0]] Bh aj) fun ar =>
  if (!ar) = true then
  (some true)
  else
  (b1 (Gi [[], [aa], [1], [0, al]] [[0, aa, 2, 1], [0, 0, 2, 0]] Bx) fun au =>
  if (!au) = true then
  (some true)
  else
  (b1 (DG [[], [aa], [1], [0, al]] [[0, aa, 2, 1], [0, 0, 2, 0]] a6 ae) fun av =>
  some (!av)))))) fun k4 =>
  if k4 = true then
  (some false)
  else
  (C8 k x ak ao (k2 + 1)))
def C6 (k5 : Int) : Nat → Int → Bc → Option Bc
  | 0, _k6, a6 =>
  some a6
  | aa + 1, k6, a6 =>
  gd (Cl (7 * k6)) <|
  gd (Cl (k5 + (7 * k6))) <|
  gd ((3 : Int) ≠ 0 ∧ Cl (Int.tdiv (k5 + (7 * k6)) 3)) <|
  gd ((9 : Int) ≠ 0 ∧ Cl (Int.tdiv (k5 + (7 * k6)) 9)) <|
  ap a6 [[Int.tmod (k5 + (7 * k6)) 3, Int.tmod (Int.tdiv (k5 + (7 * k6)) 3) 3, Int.tmod (Int.tdiv (k5 + (7 * k6)) 9) 3]] fun w =>
  C6 k5 aa (k6 + 1) w
def FO (k5 : Int) (a6 : Int → Option Bool) : Option Bool :=
  a6 (k5 + 1)
def CP (k8 : Int) : Nat → Int → Bc → Option Bc
  | 0, _k9, a6 =>
  some a6
  | aa + 1, k9, a6 =>
  ix a6 k8 fun ab =>
  ap ab [k9] fun l6 =>
  bv (a6.set (k8 : Int).toNat l6) fun w2 =>
  CP k8 aa (k9 + 1) w2
def CW : Nat → Int → Bc → (List Int) → Bc → Option (Bc × (List Int) × Bc)
  | 0, _k8, a6, ah, aa =>
  some (a6, ah, aa)
  | ai + 1, k8, a6, ah, aa =>
  b3 (b1 (gd (Cl 0 ∧ Cl k8) <|
  CP k8 (Int.toNat (k8 - 0)) 0 a6) fun ab =>
  ix ah k8 fun _ak =>
  bv (ah.set (k8 : Int).toNat 1) fun l7 =>
  ap aa [[1, 1, 2, Int.tmod k8 2]] fun u =>
  if k8 < 2 then
  (gd ((0 ≤ (1 : Int) ∧ (1 : Int) ≤ (u.length : Int)) ∧ (u.length : Int) ≤ u.length) <|
  bv (sl u 1 (u.length : Int)) fun u2 =>
  some (ab, l7, u2))
  else
  (some (ab, l7, u))) fun ad aj ae =>
  CW ai (k8 + 1) ad aj ae
def Fs (k7 : Int) (a6 : Int → Option Bool) : Option Bool :=
  a6 (k7 + 1)
def FB : Option Bool :=
  b1 (B3 [] [] 0 0 0) fun a6 =>
  if a6 = true then
  (b1 (Gf [] []) fun aa =>
  if aa = true then
  (b1 (BF) fun ab =>
  some ab)
  else
  (some false))
  else
  (some false)
def Cc : Nat → Int → Option Bool
  | 0, _k7 =>
  FB
  | ae + 1, k7 =>
  gd (0 ≤ k7 ∧ k7 ≤ 1048576) <|
  gd (0 ≤ k7 ∧ k7 ≤ 1048576) <|
  b2 (B8) fun _y3 _y4 =>
  bv (List.replicate (Int.toNat k7) 0 : List Int) fun l4 =>
  bv (List.replicate (Int.toNat k7) [] : Bc) fun l5 =>
  b3 (gd (Cl 0 ∧ Cl k7) <|
  CW (Int.toNat (k7 - 0)) 0 l5 l4 [[0, 0, 2, 1], [0, 0, 2, 0]]) fun a6 ad aa =>
  b2 (gd (Cl (k7 - 1)) <|
  b1 (B3 a6 [ad] 0 (k7 - 1) 2) fun ak =>
  if (!ak) = true then
  (some ([ad], true))
  else
  (gd ((0 ≤ (k7 : Int) ∧ (k7 : Int) < 64) ∧ Cl (shl 1 k7)) <|
  gd (Cl ((shl 1 k7) - 1)) <|
  b1 (C3 a6 [ad] 0 ((shl 1 k7) - 1)) fun al =>
  if (!al) = true then
  (some ([ad], true))
  else
  (b1 (DG a6 [ad] 0 0) fun ao =>
  if (!ao) = true then
  (some ([ad], true))
  else
  (b1 (B3 [[], [0], [1], [0, 2]] aa k7 0 0) fun ah =>
  if (!ah) = true then
  (some ([ad], true))
  else
  (gd (Cl (k7 - 1)) <|
  b1 (C3 [[], [0], [1], [0, 2]] aa (k7 - 1) 3) fun ai =>
  if (!ai) = true then
  (some ([ad], true))
  else
  (gd (Cl (k7 - 1)) <|
  b1 (DG [[], [0], [1], [0, 2]] aa (k7 - 1) 3) fun aj =>
  some ([ad], !aj))))))) fun ab aq =>
  if aq = true then
  (some false)
  else
  (b1 (b1 (FY a6 ab) fun n2 =>
  if 0 < k7 then
  (if (decide (n2 = 0)) ≠ (decide (k7 < 7)) then
  (some true)
  else
  (if 1 < k7 then
  (b1 (FY [[], [0], [1], [0, 2]] aa) fun n3 =>
  some (decide ((decide (n3 = 0)) ≠ (decide (k7 < 9)))))
  else
  (some false)))
  else
  (if (decide (n2 = 0)) ≠ false then
  (some true)
  else
  (if 1 < k7 then
  (b1 (FY [[], [0], [1], [0, 2]] aa) fun n4 =>
  some (decide ((decide (n4 = 0)) ≠ (decide (k7 < 9)))))
  else
  (some false)))) fun ar =>
  if ar = true then
  (some false)
  else
  Fs k7 (Cc ae))
def FQ : Option Bool :=
  gd (Cl 0 ∧ Cl 10) <|
  Cc (Int.toNat (10 - 0)) 0
def Cp : Nat → Int → Option Bool
  | 0, _k5 =>
  FQ
  | aa + 1, k5 =>
  gd ((2 : Int) ≠ 0 ∧ Cl (Int.tdiv k5 2)) <|
  ix ([[], [0]] : Bc) (Int.tmod k5 2) fun ab =>
  ix ([[], [0], [1], [1, 0]] : Bc) (Int.tmod (Int.tdiv k5 2) 4) fun ad =>
  b1 (gd (Cl (1 + (Int.tmod k5 2))) <|
  gd (Cl 0 ∧ Cl (1 + (Int.tmod k5 2))) <|
  C6 k5 (Int.toNat ((1 + (Int.tmod k5 2)) - 0)) 0 []) fun a6 =>
  b1 (J2 [[], ab, ad] a6 k5) fun ae =>
  if (!ae) = true then
  (some false)
  else
  FO k5 (Cp aa)
def FC : Option Bool :=
  gd (Cl 0 ∧ Cl 54) <|
  Cp (Int.toNat (54 - 0)) 0
def A4 : Nat → Int → Option Bool
  | 0, _k =>
  FC
  | a6 + 1, k =>
  ix ([-2, -1, 0, 1, 2, 3, 4, 5, 6, 7, 8, 15, 16, 63, 64, 99, 100, 9223372036854775807, -9223372036854775808] : List Int) k fun x =>
  gd (Cl 0 ∧ Cl 11) <|
  C8 k x (A4 a6) (Int.toNat (11 - 0)) 0
def EZ : Option Bool :=
  gd (Cl 0 ∧ Cl 19) <|
  A4 (Int.toNat (19 - 0)) 0
end Go.Proofs.YtepdgjpkhkijcaaGreat
