/- Plain functions that mirror the code, printed by a program of mine. -/
import Derived.Test.YtfmapnhfamoecaaGreatZWPl
namespace Go.Proofs.YtfmapnhfamoecaaGreat
open Go.PL
abbrev C4 := List (List Int)
abbrev NP := List (Int × Int × Int)
abbrev Nn := List (List (List Int))
abbrev O4 := List ((List Int) × Int × Int)
def Tp : List Int := [0, 1, 2, 2, 3, 3, 3, 3, 4, 4, 4, 4, 4, 4, 4, 4, 5, 5, 5, 5, 5, 5, 5, 5, 5, 5, 5, 5, 5, 5, 5, 5, 6, 6, 6, 6, 6, 6, 6, 6, 6, 6, 6, 6, 6, 6, 6, 6, 6, 6, 6, 6, 6, 6, 6, 6, 6, 6, 6, 6, 6, 6, 6, 6, 7, 7, 7, 7, 7, 7, 7, 7, 7, 7, 7, 7, 7, 7, 7, 7, 7, 7, 7, 7, 7, 7, 7, 7, 7, 7, 7, 7, 7, 7, 7, 7, 7, 7, 7, 7, 7, 7, 7, 7, 7, 7, 7, 7, 7, 7, 7, 7, 7, 7, 7, 7, 7, 7, 7, 7, 7, 7, 7, 7, 7, 7, 7, 7, 8, 8, 8, 8, 8, 8, 8, 8, 8, 8, 8, 8, 8, 8, 8, 8, 8, 8, 8, 8, 8, 8, 8, 8, 8, 8, 8, 8, 8, 8, 8, 8, 8, 8, 8, 8, 8, 8, 8, 8, 8, 8, 8, 8, 8, 8, 8, 8, 8, 8, 8, 8, 8, 8, 8, 8, 8, 8, 8, 8, 8, 8, 8, 8, 8, 8, 8, 8, 8, 8, 8, 8, 8, 8, 8, 8, 8, 8, 8, 8, 8, 8, 8, 8, 8, 8, 8, 8, 8, 8, 8, 8, 8, 8, 8, 8, 8, 8, 8, 8, 8, 8, 8, 8, 8, 8, 8, 8, 8, 8, 8, 8, 8, 8, 8, 8, 8, 8, 8, 8, 8, 8, 8, 8, 8, 8, 8, 8]
def JL (metal : List Int) : Option ((List Int) × Int × Int) :=
  some (metal, 0, 0)
def Gb : Option Int :=
  some (-1)
def CL (v : Int) : List Int → Int → Option Int
  | [], _k =>
  Gb
  | x :: aa, k =>
  if v = x then
  (some k)
  else
  (CL v aa (k + 1))
def FD (s_ : List Int) (v : Int) : Option Int :=
  CL v s_ 0
def Cm (s_ : List Int) (v : Int) : Option Bool :=
  b1 (FD s_ v) fun n =>
  some (decide (0 ≤ n))
def HO (n lo hi : Int) : Option Bool :=
  if lo ≤ n then
  (some (decide (n ≤ hi)))
  else
  (some false)
def EW : Option Int :=
  some (-1)
def Cc (f : (List Int) → Option Bool) : C4 → Int → Option Int
  | [], _k =>
  EW
  | x :: aa, k =>
  b1 (f x) fun ok =>
  if ok = true then
  (some k)
  else
  (Cc f aa (k + 1))
def Et (s_ : C4) (f : (List Int) → Option Bool) : Option Int :=
  Cc f s_ 0
def Db (s_ : C4) (f : (List Int) → Option Bool) : Option Bool :=
  b1 (Et s_ f) fun n =>
  some (decide (0 ≤ n))
def GV (x : List Int) (so : (List Int) → Option Bool) : Option Bool :=
  b1 (so x) fun ok =>
  some (!ok)
def JB (l : C4) (so : (List Int) → Option Bool) : Option Bool :=
  b1 (Db l (fun aa : (List Int) => GV aa so)) fun ok =>
  some (!ok)
def FC (l : List Int) (n : Int) : Option Bool :=
  some (decide ((l.length : Int) = n))
def HY (walks Ao : C4) (An _start : Int) (Ad : O4) : Option Bool :=
  b1 (HO (Ao.length : Int) 1 5) fun ok =>
  if ok = true then
  (b1 (HO An 1 5) fun aa =>
  if aa = true then
  (if (Ad.length : Int) ≤ 3 then
  (if (walks.length : Int) = (Ao.length : Int) then
  (b1 (JB walks (fun ab : (List Int) => FC ab (Ao.length : Int))) fun ad =>
  some ad)
  else
  (some false))
  else
  (some false))
  else
  (some false))
  else
  (some false)
def Ja (_walks Ao : C4) (_An _start : Int) (_Ad : O4) (s_ : Int) : Option Bool :=
  gd (C6 ((Ao.length : Int) - 1)) <|
  b1 (HO s_ 0 ((Ao.length : Int) - 1)) fun ok =>
  some ok
def Gt (k : Int) (rec2 : Int → Option Bool) : Option Bool :=
  rec2 (k + 1)
def D5 (k : Int) (rec2 : Int → Option Bool) : List Int → Int → Option Bool
  | [], _k2 =>
  Gt k rec2
  | x2 :: aa, k2 =>
  b1 (if k = k2 then
  (if x2 ≠ 0 then
  (some true)
  else
  (if k ≠ k2 then
  (if x2 ≠ (-1) then
  (b1 (HO x2 1 20) fun ok =>
  some (!ok))
  else
  (some false))
  else
  (some false)))
  else
  (if k ≠ k2 then
  (if x2 ≠ (-1) then
  (b1 (HO x2 1 20) fun ab =>
  some (!ab))
  else
  (some false))
  else
  (some false))) fun k3 =>
  if k3 = true then
  (some false)
  else
  (D5 k rec2 aa (k2 + 1))
def Gr : Option Bool :=
  some true
def CU : C4 → Int → Option Bool
  | [], _k =>
  Gr
  | x :: aa, k =>
  D5 k (CU aa) x 0
def Hy (walks _Ao : C4) (_An _start : Int) (_Ad : O4) : Option Bool :=
  CU walks 0
def G2 : Option Int :=
  some 0
def Ex (An : Int) (l : List Int) : List Int → Int → Option Int
  | [], _k =>
  G2
  | x :: aa, k =>
  gd (C6 (An - 1)) <|
  b1 (HO x 0 (An - 1)) fun ok =>
  if (!ok) = true then
  (some 1)
  else
  (gd ((0 ≤ (0 : Int) ∧ (0 : Int) ≤ k) ∧ k ≤ l.length) <|
  bv (sl l 0 k) fun l2 =>
  b1 (Cm l2 x) fun ab =>
  if ab = true then
  (some 5)
  else
  (Ex An l aa (k + 1)))
def GU (_walks _Ao : C4) (An _start : Int) (_Ad : O4) (l : List Int) : Option Int :=
  Ex An l l 0
def IX (walks Ao : C4) (An start : Int) (Ad : O4) (quarter : List Int) (words hour : Int) : Option Int :=
  if (quarter.length : Int) = 0 then
  (some 6)
  else
  (b1 (GU walks Ao An start Ad quarter) fun n =>
  if n ≠ 0 then
  (some n)
  else
  (b1 (b1 (HO words 1 5) fun ok =>
  if (!ok) = true then
  (some true)
  else
  (b1 (HO hour 0 200) fun aa =>
  some (!aa))) fun k =>
  if k = true then
  (some 3)
  else
  (some 0)))
def Kw (Ca : Int) : Option Int :=
  if 9 < Ca then
  (some 2)
  else
  (some 0)
def G4 (walks Ao : C4) (An start : Int) (Ad : O4) : O4 → Int → Option Int
  | [], aa =>
  Kw aa
  | x2 :: ab, aa =>
  b1 (IX walks Ao An start Ad x2.1 x2.2.1 x2.2.2) fun n2 =>
  if n2 ≠ 0 then
  (some n2)
  else
  (gd (C6 (aa + (x2.1.length : Int))) <|
  G4 walks Ao An start Ad ab (aa + (x2.1.length : Int)))
def Kr (walks Ao : C4) (An start : Int) (Ad : O4) : Option Int :=
  G4 walks Ao An start Ad Ad 0
def Hk (walks Ao : C4) (An start : Int) (Ad : O4) : C4 → Option Int
  | [] =>
  Kr walks Ao An start Ad
  | x :: aa =>
  b1 (GU walks Ao An start Ad x) fun n =>
  if n ≠ 0 then
  (some n)
  else
  (Hk walks Ao An start Ad aa)
def Md (walks Ao : C4) (An start : Int) (Ad : O4) : Option Int :=
  b1 (HY walks Ao An start Ad) fun ok =>
  if (!ok) = true then
  (some 2)
  else
  (b1 (Ja walks Ao An start Ad start) fun aa =>
  if (!aa) = true then
  (some 1)
  else
  (b1 (Hy walks Ao An start Ad) fun ab =>
  if (!ab) = true then
  (some 3)
  else
  (Hk walks Ao An start Ad Ao)))
def E9 : List Int → Int → Option Int
  | [], aa =>
  some aa
  | x :: ab, aa =>
  b1 (if x ≠ (-1) then
  (if aa = (-1) then
  (some true)
  else
  (some (decide (x < aa))))
  else
  (some false)) fun k2 =>
  if k2 = true then
  (E9 ab x)
  else
  (E9 ab aa)
def KQ (l : List Int) : Option Int :=
  b1 (E9 l (-1)) fun out =>
  some out
def Du (w : List Int) (k k2 : Int) : Nat → Int → (List Int) → Option (List Int)
  | 0, _k3, aa =>
  some aa
  | ab + 1, k3, aa =>
  b1 (gd (0 ≤ k ∧ k < 5) <|
  gd (0 ≤ k3 ∧ k3 < 5) <|
  ix w (k * 5 + k3) fun x =>
  if x ≠ (-1) then
  (gd (0 ≤ k3 ∧ k3 < 5) <|
  gd (0 ≤ k2 ∧ k2 < 5) <|
  ix w (k3 * 5 + k2) fun x2 =>
  some (decide (x2 ≠ (-1))))
  else
  (some false)) fun k4 =>
  if k4 = true then
  (gd (0 ≤ k ∧ k < 5) <|
  gd (0 ≤ k2 ∧ k2 < 5) <|
  ix aa (k * 5 + k2) fun x3 =>
  gd (0 ≤ k ∧ k < 5) <|
  gd (0 ≤ k3 ∧ k3 < 5) <|
  ix w (k * 5 + k3) fun x4 =>
  gd (0 ≤ k3 ∧ k3 < 5) <|
  gd (0 ≤ k2 ∧ k2 < 5) <|
  ix w (k3 * 5 + k2) fun x5 =>
  gd (C6 (x4 + x5)) <|
  gd (0 ≤ k ∧ k < 5) <|
  b1 (KQ [x3, x4 + x5]) fun n =>
  gd (0 ≤ k2 ∧ k2 < 5) <|
  bv (aa.set (k * 5 + k2 : Int).toNat n) fun l =>
  Du w k k2 ab (k3 + 1) l)
  else
  (Du w k k2 ab (k3 + 1) aa)
def D9 (w : List Int) (k : Int) : Nat → Int → (List Int) → Option (List Int)
  | 0, _k2, aa =>
  some aa
  | ad + 1, k2, aa =>
  b1 (gd (C6 0 ∧ C6 5) <|
  Du w k k2 (Int.toNat (5 - 0)) 0 aa) fun ab =>
  D9 w k ad (k2 + 1) ab
def D4 (w : List Int) : Nat → Int → (List Int) → Option (List Int)
  | 0, _k, aa =>
  some aa
  | ad + 1, k, aa =>
  b1 (gd (C6 0 ∧ C6 5) <|
  D9 w k (Int.toNat (5 - 0)) 0 aa) fun ab =>
  D4 w ad (k + 1) ab
def FP (w : List Int) : Option (List Int) :=
  b1 (gd (C6 0 ∧ C6 5) <|
  D4 w (Int.toNat (5 - 0)) 0 w) fun out =>
  some out
def C7 : List Int → (List Int) → Option (List Int)
  | [], aa =>
  some aa
  | x :: ab, aa =>
  ap aa [x] fun ad =>
  C7 ab ad
def FH (s_ seq : List Int) : Option (List Int) :=
  b1 (C7 seq s_) fun aa =>
  some aa
def H3 (seq : List Int) : Option (List Int) :=
  b1 (FH [] seq) fun l =>
  some l
def Je (x : Int) : Option Bool :=
  some (decide (x ≠ x))
def Lw (x y : Int) : Option Bool :=
  b1 (Je x) fun ok =>
  if ok = true then
  (b1 (Je y) fun aa =>
  if (!aa) = true then
  (some true)
  else
  (some (decide (x < y))))
  else
  (some (decide (x < y)))
def Ch (a : Int) : Nat → (List Int) → Int → Option (List Int)
  | 0, _, _ => none
  | ab + 1, aa, j =>
  b1 (if a < j then
  (ix aa j fun x =>
  gd (C6 (j - 1)) <|
  ix aa (j - 1) fun x2 =>
  b1 (Lw x x2) fun ok =>
  some ok)
  else
  (some false)) fun k =>
  if k = true then
  (gd (C6 (j - 1)) <|
  gd (C6 (j - 1)) <|
  ix aa (j - 1) fun x3 =>
  ix aa j fun x4 =>
  bv (aa.set (j : Int).toNat x3) fun l =>
  ix l (j - 1) fun _x5 =>
  bv (l.set (j - 1 : Int).toNat x4) fun l2 =>
  gd (C6 (j - 1)) <|
  Ch a ab l2 (j - 1))
  else
  (some aa)
def Ci (a : Int) : Nat → Int → (List Int) → Option (List Int)
  | 0, _i, data =>
  some data
  | ab + 1, i, data =>
  b1 (Ch a FU data i) fun aa =>
  Ci a ab (i + 1) aa
def Eg (s_ : List Int) (a b : Int) : Option (List Int) :=
  gd (C6 (a + 1)) <|
  gd (C6 (a + 1) ∧ C6 b) <|
  Ci a (Int.toNat (b - (a + 1))) (a + 1) s_
def Ju (x : Int) : Option Int :=
  b2 (if 4294967296 ≤ x then
  (some (shr x 32, 32))
  else
  (some (x, 0))) fun x2 n =>
  b2 (if 65536 ≤ x2 then
  (gd (C6 (n + 16)) <|
  some (shr x2 16, n + 16))
  else
  (some (x2, n))) fun x3 n2 =>
  b2 (if 256 ≤ x3 then
  (gd (C6 (n2 + 8)) <|
  some (shr x3 8, n2 + 8))
  else
  (some (x3, n2))) fun x4 n3 =>
  ix Tp (x4 % 256) fun x5 =>
  gd (C6 x5) <|
  gd (C6 (n3 + x5)) <|
  some (n3 + x5)
def KP (x : Int) : Option Int :=
  b1 (Ju x) fun n =>
  some n
def DH (s_ : List Int) (a b : Int) : Nat → Option (List Int)
  | 0 => none
  | _ab + 1 =>
  gd (C6 (b - a)) <|
  gd ((b - a) ≤ 12) <|
  b1 (Eg s_ a b) fun aa =>
  some aa
def Fk (_ab : (List Int) → Int → Int → Int → Option ((List Int))) (s_ : List Int) (a b _aa : Int) : Option (List Int) :=
  DH s_ a b FU
def Dz : Nat → (List Int) → Int → Int → Int → Option (List Int)
  | 0, _, _, _, _ => none
  | fu + 1, s_, a, b, aa =>
  Fk (Dz fu) s_ a b aa
def HA (s_ : List Int) : Option (List Int) :=
  b1 (KP ((s_.length : Int) % 18446744073709551616)) fun n =>
  b1 (Dz FU s_ 0 (s_.length : Int) n) fun aa =>
  some aa
def Iv (seq : List Int) : Option (List Int) :=
  b1 (H3 seq) fun l =>
  b1 (HA l) fun s_ =>
  some s_
def Di : List Int → Option (List Int)
  | [] =>
  some []
  | x :: aa =>
  yl x <|
  Di aa
def FY (s_ : List Int) : Option (List Int) :=
  Di s_
def GN (s_ : List Int) : Option (List Int) :=
  b1 (FY s_) fun l =>
  some l
def Fu (walks : C4) (k : Int) : Nat → Int → (List Int) → Option (List Int)
  | 0, _k2, aa =>
  some aa
  | ab + 1, k2, aa =>
  gd (0 ≤ k ∧ k < 5) <|
  gd (0 ≤ k2 ∧ k2 < 5) <|
  ix aa (k * 5 + k2) fun _x =>
  bv (aa.set (k * 5 + k2 : Int).toNat (-1)) fun ws =>
  b1 (if k < (walks.length : Int) then
  (some (decide (k2 < (walks.length : Int))))
  else
  (some false)) fun k3 =>
  if k3 = true then
  (ix walks k fun x2 =>
  ix x2 k2 fun x3 =>
  gd (0 ≤ k ∧ k < 5) <|
  gd (0 ≤ k2 ∧ k2 < 5) <|
  ix ws (k * 5 + k2) fun _x4 =>
  bv (ws.set (k * 5 + k2 : Int).toNat x3) fun ad =>
  Fu walks k ab (k2 + 1) ad)
  else
  (Fu walks k ab (k2 + 1) ws)
def Gx (walks : C4) : Nat → Int → (List Int) → Option (List Int)
  | 0, _k, aa =>
  some aa
  | ad + 1, k, aa =>
  b1 (gd (C6 0 ∧ C6 5) <|
  Fu walks k (Int.toNat (5 - 0)) 0 aa) fun ab =>
  Gx walks ad (k + 1) ab
def GB : Nat → (List Int) → (List Int) → Option (List Int)
  | 0, _, _ => none
  | ad + 1, aa, ab =>
  gd (∀ x_ ∈ ab, C6 x_) <|
  gd (∀ x_ ∈ aa, C6 x_) <|
  if ab ≠ aa then
  (b1 (FP ab) fun a2 =>
  GB ad ab a2)
  else
  (some aa)
def Fv (k4 : Int) (aa : List (Int × Int)) (x6 : Int) : C4 → Int → (List Int) → Option (List Int)
  | [], _k6, ab =>
  some ab
  | x7 :: ad, k6, ab =>
  b1 (Cm x7 x6) fun ok =>
  if ok = true then
  (gd (0 ≤ k6 ∧ k6 < 5) <|
  gd (0 ≤ k4 ∧ k4 < 3) <|
  ix ab (k6 * 3 + k4) fun x8 =>
  gd ((0 ≤ ((aa.length : Int) : Int) ∧ ((aa.length : Int) : Int) < 64) ∧ C6 (shl 1 (aa.length : Int))) <|
  gd (0 ≤ k6 ∧ k6 < 5) <|
  gd (0 ≤ k4 ∧ k4 < 3) <|
  bv (ab.set (k6 * 3 + k4 : Int).toNat (Oe x8 (shl 1 (aa.length : Int)))) fun ae =>
  Fv k4 aa x6 ad (k6 + 1) ae)
  else
  (Fv k4 aa x6 ad (k6 + 1) ab)
def GD (Ao : C4) (k4 : Int) : List Int → (List (Int × Int)) → (List Int) → Option ((List (Int × Int)) × (List Int))
  | [], aa, ab =>
  some (aa, ab)
  | x6 :: ah, aa, ab =>
  b2 (b1 (Fv k4 aa x6 Ao 0 ab) fun ae =>
  ap aa [(k4, x6)] fun c =>
  some (c, ae)) fun ad af =>
  GD Ao k4 ah ad af
def Gy (Ao : C4) : O4 → Int → (List (Int × Int)) → (List Int) → Option ((List (Int × Int)) × (List Int))
  | [], _k4, aa, ab =>
  some (aa, ab)
  | x5 :: af, k4, aa, ab =>
  b2 (b1 (GN x5.1) fun y =>
  b1 (Iv y) fun l =>
  GD Ao k4 l aa ab) fun ad ae =>
  Gy Ao af (k4 + 1) ad ae
def Lq (walks Ao : C4) (An start : Int) (Ad : O4) : Option ((Option (C4 × C4 × Int × Int × O4 × (List Int) × (List (Int × Int)) × (List Int))) × Int) :=
  b1 (Md walks Ao An start Ad) fun n =>
  if n ≠ 0 then
  (some (none, n))
  else
  (b1 (gd (C6 0 ∧ C6 5) <|
  Gx walks (Int.toNat (5 - 0)) 0 (List.replicate 25 0)) fun aa =>
  b1 (b1 (FP aa) fun a =>
  GB FU aa a) fun ab =>
  b2 (Gy Ao Ad 0 [] (List.replicate 15 0)) fun ad ae =>
  some (some (walks, Ao, An, start, Ad, ab, ad, ae), 0))
def Gh (k : Int) (aa : Int → Option (List ((Int × Int) × Int))) : Option (List ((Int × Int) × Int)) :=
  aa (k + 1)
def De (HG : List Int) (Eh k : Int) (aa : Int → Option (List ((Int × Int) × Int))) : O4 → Int → Option (List ((Int × Int) × Int))
  | [], _k2 =>
  Gh k aa
  | _x2 :: ab, k2 =>
  gd (0 ≤ k ∧ k < 5) <|
  gd (0 ≤ k2 ∧ k2 < 3) <|
  ix HG (k * 3 + k2) fun x3 =>
  if (Nb Eh x3) ≠ Eh then
  (yl ((k, k2), Nb Eh x3) <|
  De HG Eh k aa ab (k2 + 1))
  else
  (De HG Eh k aa ab (k2 + 1))
def CK (Ad : O4) (HG : List Int) (Eh : Int) : C4 → Int → Option (List ((Int × Int) × Int))
  | [], _k =>
  some []
  | _x :: aa, k =>
  De HG Eh k (CK Ad HG Eh aa) Ad 0
def Hi (_walks Ao : C4) (_An _start : Int) (Ad : O4) (_BR : List Int) (_Ca : List (Int × Int)) (HG : List Int) (Eh : Int) : Option (List ((Int × Int) × Int)) :=
  CK Ad HG Eh Ao 0
def H9 (walks Ao : C4) (An start : Int) (Ad : O4) (BR : List Int) (Ca : List (Int × Int)) (HG : List Int) (Eh : Int) : Option (List ((Int × Int) × Int)) :=
  b1 (Hi walks Ao An start Ad BR Ca HG Eh) fun l =>
  some l
def B7 : Nat → (List (Int × Int)) → Int → Int → Option (List (Int × Int))
  | 0, _, _, _ => none
  | ab + 1, aa, i, j =>
  if i < j then
  (ix aa j fun x =>
  ix aa i fun x2 =>
  bv (aa.set (i : Int).toNat (x.1, x.2)) fun l =>
  ix l j fun _x3 =>
  bv (l.set (j : Int).toNat (x2.1, x2.2)) fun l2 =>
  gd (C6 (i + 1)) <|
  gd (C6 (j - 1)) <|
  B7 ab l2 (i + 1) (j - 1))
  else
  (some aa)
def DS (s_ : List (Int × Int)) : Option (List (Int × Int)) :=
  gd (C6 ((s_.length : Int) - 1)) <|
  B7 FU s_ 0 ((s_.length : Int) - 1)
def Dh (Ad : O4) (BR : List Int) (ok : (Int × Int) → Option Bool) (aa : Int) (ad : List ((Int × Int) × (Int × Int × Int × Int × Int))) (k : Int) : List ((Int × Int) × Int) → (List ((Int × Int) × (Int × Int × Int × Int × Int))) → Option (List ((Int × Int) × (Int × Int × Int × Int × Int)))
  | [], ab =>
  some ab
  | x2 :: ae, ab =>
  gd (0 ≤ k ∧ k < 5) <|
  gd (0 ≤ x2.1.1 ∧ x2.1.1 < 5) <|
  ix BR (k * 5 + x2.1.1) fun x3 =>
  if x3 = (-1) then
  (Dh Ad BR ok aa ad k ae ab)
  else
  (gd (C6 ((((Bm ad (k, aa)).getD (0, 0, 0, 0, 0)).1) + x3)) <|
  ix Ad x2.1.2 fun x4 =>
  gd (C6 (((((Bm ad (k, aa)).getD (0, 0, 0, 0, 0)).1) + x3) + x4.2.1)) <|
  bv (((((Bm ad (k, aa)).getD (0, 0, 0, 0, 0)).1) + x3) + x4.2.1) fun end_ =>
  b1 (b1 (ok (x2.1.2, end_)) fun ah =>
  if ah = true then
  (if (!((Bm ab (x2.1.1, x2.2)).isSome)) = true then
  (some true)
  else
  (some (decide (end_ < (((Bm ab (x2.1.1, x2.2)).getD (0, 0, 0, 0, 0)).1)))))
  else
  (some false)) fun k2 =>
  if k2 = true then
  (bv (H8 ab (x2.1.1, x2.2) (end_, x2.1.1, x2.1.2, k, aa)) fun af =>
  Dh Ad BR ok aa ad k ae af)
  else
  (Dh Ad BR ok aa ad k ae ab))
def Ez (walks Ao : C4) (An start : Int) (Ad : O4) (BR : List Int) (Ca : List (Int × Int)) (HG : List Int) (ok : (Int × Int) → Option Bool) (aa : Int) : C4 → Int → (List ((Int × Int) × (Int × Int × Int × Int × Int))) → Option (List ((Int × Int) × (Int × Int × Int × Int × Int)))
  | [], _k, ab =>
  some ab
  | _x :: ae, k, ab =>
  b1 (if (!((Bm ab (k, aa)).isSome)) = true then
  (some ab)
  else
  (b1 (H9 walks Ao An start Ad BR Ca HG aa) fun y =>
  Dh Ad BR ok aa ab k y ab)) fun ad =>
  Ez walks Ao An start Ad BR Ca HG ok aa ae (k + 1) ad
def EB (walks Ao : C4) (An start : Int) (Ad : O4) (BR : List Int) (Ca : List (Int × Int)) (HG : List Int) (Eh : Int) (ok : (Int × Int) → Option Bool) : Nat → (List ((Int × Int) × (Int × Int × Int × Int × Int))) → Int → Option (List ((Int × Int) × (Int × Int × Int × Int × Int)))
  | 0, _, _ => none
  | ae + 1, ab, aa =>
  if 0 < aa then
  (b1 (if (Nb aa Eh) ≠ 0 then
  (some ab)
  else
  (Ez walks Ao An start Ad BR Ca HG ok aa Ao 0 ab)) fun ad =>
  gd (C6 (aa - 1)) <|
  EB walks Ao An start Ad BR Ca HG Eh ok ae ad (aa - 1))
  else
  (some ab)
def DU (ad : List ((Int × Int) × (Int × Int × Int × Int × Int))) : C4 → Int → Int → Int → Option (Int × Int)
  | [], _k3, aa, ab =>
  some (aa, ab)
  | _x5 :: af, k3, aa, ab =>
  b1 (if ((Bm ad (k3, 0)).isSome) = true then
  (if ab = (-1) then
  (some true)
  else
  (some (decide ((((Bm ad (k3, 0)).getD (0, 0, 0, 0, 0)).1) < ab))))
  else
  (some false)) fun k4 =>
  if k4 = true then
  (bv (((Bm ad (k3, 0)).getD (0, 0, 0, 0, 0)).1) fun ae =>
  DU ad af (k3 + 1) k3 ae)
  else
  (DU ad af (k3 + 1) aa ab)
def Ev (Eh : Int) (ad : List ((Int × Int) × (Int × Int × Int × Int × Int))) : Nat → Int → Int → (List (Int × Int)) → Option (List (Int × Int))
  | 0, _, _, _ => none
  | ah + 1, aa, ab, ae =>
  if ab ≠ Eh then
  (ap ae [(((Bm ad (aa, ab)).getD (0, 0, 0, 0, 0)).2.1, ((Bm ad (aa, ab)).getD (0, 0, 0, 0, 0)).2.2.1)] fun af =>
  Ev Eh ad ah (((Bm ad (aa, ab)).getD (0, 0, 0, 0, 0)).2.2.2.1) (((Bm ad (aa, ab)).getD (0, 0, 0, 0, 0)).2.2.2.2) af)
  else
  (some ae)
def Il (walks Ao : C4) (An start : Int) (Ad : O4) (BR : List Int) (Ca : List (Int × Int)) (HG : List Int) (Eh : Int) (ok : (Int × Int) → Option Bool) : Option ((List (Int × Int)) × Int × Bool) :=
  bv (H8 [] (start, Eh) (0, 0, 0, 0, 0)) fun met =>
  b1 (EB walks Ao An start Ad BR Ca HG Eh ok FU met Eh) fun ab =>
  b2 (DU ab Ao 0 (-1) (-1)) fun aa minute =>
  if minute = (-1) then
  (some ([], 0, false))
  else
  (b1 (Ev Eh ab FU aa 0 []) fun out =>
  b1 (DS out) fun s_ =>
  some (s_, minute, true))
def JE (_walks _Ao : C4) (_An _start : Int) (_Ad : O4) (_BR : List Int) (Ca : List (Int × Int)) (_HG : List Int) : Option Int :=
  gd ((0 ≤ ((Ca.length : Int) : Int) ∧ ((Ca.length : Int) : Int) < 64) ∧ C6 (shl 1 (Ca.length : Int))) <|
  gd (C6 ((shl 1 (Ca.length : Int)) - 1)) <|
  some ((shl 1 (Ca.length : Int)) - 1)
def Hm (I1 minute last : Int) (_walks _Ao : C4) (_An _start : Int) (Ad : O4) (_BR : List Int) (_Ca : List (Int × Int)) (_HG : List Int) : Option Bool :=
  ix Ad I1 fun x =>
  some (decide (minute ≤ (if x.2.2 < last then x.2.2 else last)))
def J8 (walks Ao : C4) (An start : Int) (Ad : O4) (BR : List Int) (Ca : List (Int × Int)) (HG : List Int) (last : Int) : Option ((Int × Int) → Option Bool) :=
  some (fun aa : Int × Int => Hm aa.1 aa.2 last walks Ao An start Ad BR Ca HG)
def Is (walks Ao : C4) (An start : Int) (Ad : O4) (BR : List Int) (Ca : List (Int × Int)) (HG : List Int) : Option ((Int × Int) → Option Bool) :=
  b1 (J8 walks Ao An start Ad BR Ca HG 200) fun y =>
  some y
def Nr (walks Ao : C4) (An start : Int) (Ad : O4) : Option ((List (Int × Int)) × Int × Int) :=
  b2 (Lq walks Ao An start Ad) fun d n =>
  if n ≠ 0 then
  (some ([], 0, n))
  else
  (b8 d fun BR ad ab ae aa af Ca HG =>
  b1 (JE BR ad ab ae aa af Ca HG) fun n2 =>
  b1 (Is BR ad ab ae aa af Ca HG) fun y =>
  b3 (Il BR ad ab ae aa af Ca HG n2 y) fun l n3 ok =>
  if (!ok) = true then
  (some ([], 0, 6))
  else
  (some (l, n3, 0)))
def HK : List Int → Int → Option Int
  | [], n3 =>
  some n3
  | x :: aa, n3 =>
  HK aa (if x < n3 then x else n3)
def NL (n : Int) (more : List Int) : Option Int :=
  b1 (HK more n) fun n2 =>
  some n2
def MO (a b : Int) : Option Bool :=
  gd (C6 (a - b)) <|
  gd (C6 ((a - b) + 8)) <|
  gd (C6 (8 - (Int.tmod ((a - b) + 8) 8))) <|
  b1 (NL (Int.tmod ((a - b) + 8) 8) [8 - (Int.tmod ((a - b) + 8) 8)]) fun n =>
  some (decide (n ≤ 1))
def GH (_An _Ad : Int) (_Ao : Nn) (Av : List Int) (_Ba : NP) (hour Dy : Int) : Option Bool :=
  ix Av hour fun x =>
  if x = (-1) then
  (some true)
  else
  (b1 (MO Dy x) fun ok =>
  some ok)
def DY (s_ : List Int) : Option (List Int) :=
  Pn (s_ = []) (some []) (ap ([] : List Int) s_ fun l =>
  some l)
def FB (x : Int × Int × Int) : List Int → (List Bool) → Option (List Bool)
  | [], g5 =>
  some g5
  | x4 :: aa, g5 =>
  gd (0 ≤ x4 ∧ x4 < 6) <|
  gd (0 ≤ x.2.2 ∧ x.2.2 < 4) <|
  ix g5 (x4 * 4 + x.2.2) fun _x5 =>
  bv (g5.set (x4 * 4 + x.2.2 : Int).toNat true) fun l =>
  FB x aa l
def Fw (Ao : Nn) (hour Dy : Int) : NP → (List Bool) → Option (List Bool)
  | [], g3 =>
  some g3
  | x :: aa, g3 =>
  b1 (if x.1 ≠ hour then
  (some g3)
  else
  (ix Ao x.2.1 fun x2 =>
  ix x2 Dy fun x3 =>
  FB x x3 g3)) fun g4 =>
  Fw Ao hour Dy aa g4
def Ki (_An _Ad : Int) (Ao : Nn) (_Av : List Int) (Ba : NP) (g : List Bool) (hour Dy : Int) : Option (List Bool) :=
  b1 (Fw Ao hour Dy Ba g) fun g2 =>
  some g2
def E7 (Dy : Int) : Nat → Int → Option (List Int)
  | 0, _k =>
  some []
  | aa + 1, k =>
  b1 (MO k Dy) fun ok =>
  if ok = true then
  (yl k <|
  E7 Dy aa (k + 1))
  else
  (E7 Dy aa (k + 1))
def KI (Dy : Int) : Option (List Int) :=
  gd (C6 0 ∧ C6 8) <|
  E7 Dy (Int.toNat (8 - 0)) 0
def Mf (Dy : Int) : Option (List Int) :=
  b1 (KI Dy) fun l =>
  some l
def CS : Option Int :=
  some (-1)
def BQ (f : ((List Bool) × (List Int)) → Option Bool) : List ((List Bool) × (List Int)) → Int → Option Int
  | [], _k =>
  CS
  | x :: aa, k =>
  b1 (f (x.1, x.2)) fun ok =>
  if ok = true then
  (some k)
  else
  (BQ f aa (k + 1))
def C5 (s_ : List ((List Bool) × (List Int))) (f : ((List Bool) × (List Int)) → Option Bool) : Option Int :=
  BQ f s_ 0
def CR (s_ : List ((List Bool) × (List Int))) (f : ((List Bool) × (List Int)) → Option Bool) : Option Bool :=
  b1 (C5 s_ f) fun n =>
  some (decide (0 ≤ n))
def FR (_Dy : Int) (RS : List Bool) (HC : List Int) (aa : Int) (x : (Int × Int) → Option Bool) (x2 An Ad : Int) (Ao : Nn) (Av : List Int) (Ba : NP) (x3 : List ((Int × (List Bool)) × Bool)) (ab : List (Int × (List Bool) × (List Int))) : Option ((List ((Int × (List Bool)) × Bool)) × (List (Int × (List Bool) × (List Int)))) :=
  b1 (x (x2, aa)) fun ok =>
  if (!ok) = true then
  (some (x3, ab))
  else
  (b1 (Ki An Ad Ao Av Ba RS x2 aa) fun a =>
  gd (C6 aa) <|
  if (!((Bm x3 (aa, a)).getD false)) = true then
  (gd (C6 aa) <|
  bv (H8 x3 (aa, a) true) fun met =>
  b1 (DY HC) fun l =>
  ap l [aa] fun l2 =>
  ap ab [(aa, a, l2)] fun l3 =>
  some (met, l3))
  else
  (some (x3, ab)))
def FQ (RS : List Bool) (_HC : List Int) (_Dy : Int) (ab : List Bool) (_aa : List Int) : Option Bool :=
  some (decide (RS = ab))
def EG (An Ad : Int) (Ao : Nn) (Av : List Int) (Ba : NP) (k : Int) : Nat → Int → (List (Int × (List Bool) × (List Int))) → (List ((Int × (List Bool)) × Bool)) → Option ((List (Int × (List Bool) × (List Int))) × (List ((Int × (List Bool)) × Bool)))
  | 0, _k2, aa, m2 =>
  some (aa, m2)
  | ae + 1, k2, aa, m2 =>
  b2 (FR 0 (List.replicate 24 false) [] k2 (fun ad : Int × Int => GH An Ad Ao Av Ba ad.1 ad.2) k An Ad Ao Av Ba m2 aa) fun x2 ab =>
  EG An Ad Ao Av Ba k ae (k2 + 1) ab x2
def EF (An Ad : Int) (Ao : Nn) (Av : List Int) (Ba : NP) (k : Int) (x3 : Int × (List Bool) × (List Int)) : List Int → (List (Int × (List Bool) × (List Int))) → (List ((Int × (List Bool)) × Bool)) → Option ((List (Int × (List Bool) × (List Int))) × (List ((Int × (List Bool)) × Bool)))
  | [], aa, m5 =>
  some (aa, m5)
  | x4 :: ae, aa, m5 =>
  b2 (FR x3.1 x3.2.1 x3.2.2 x4 (fun ad : Int × Int => GH An Ad Ao Av Ba ad.1 ad.2) k An Ad Ao Av Ba m5 aa) fun x5 ab =>
  EF An Ad Ao Av Ba k x3 ae ab x5
def Ew (An Ad : Int) (Ao : Nn) (Av : List Int) (Ba : NP) (k : Int) : List (Int × (List Bool) × (List Int)) → (List (Int × (List Bool) × (List Int))) → (List ((Int × (List Bool)) × Bool)) → Option (List (Int × (List Bool) × (List Int)))
  | [], aa, _m3 =>
  some aa
  | x3 :: ad, aa, m3 =>
  b2 (b1 (Mf x3.1) fun y =>
  EF An Ad Ao Av Ba k x3 y aa m3) fun ab m4 =>
  Ew An Ad Ao Av Ba k ad ab m4
def ED (An Ad : Int) (Ao : Nn) (Av : List Int) (Ba : NP) : List Int → Int → (List (Int × (List Bool) × (List Int))) → Option (List (Int × (List Bool) × (List Int)))
  | [], _k, aa =>
  some aa
  | _x :: af, k, aa =>
  b1 (b2 (if k = 0 then
  (gd (C6 0 ∧ C6 8) <|
  EG An Ad Ao Av Ba k (Int.toNat (8 - 0)) 0 [] [])
  else
  (some ([], []))) fun ab m =>
  b1 (Ew An Ad Ao Av Ba k aa ab m) fun ad =>
  some ad) fun ae =>
  ED An Ad Ao Av Ba af (k + 1) ae
def DW : List (Int × (List Bool) × (List Int)) → (List ((List Bool) × (List Int))) → Option (List ((List Bool) × (List Int)))
  | [], aa =>
  some aa
  | x6 :: ad, aa =>
  b1 (CR aa (fun ae : ((List Bool) × (List Int)) => FQ ae.1 ae.2 x6.1 x6.2.1 x6.2.2)) fun ok =>
  if (!ok) = true then
  (ap aa [(x6.2.1, x6.2.2)] fun ab =>
  DW ad ab)
  else
  (DW ad aa)
def IE (An Ad : Int) (Ao : Nn) (Av : List Int) (Ba : NP) : Option (List ((List Bool) × (List Int))) :=
  b1 (ED An Ad Ao Av Ba Av 0 []) fun now =>
  b1 (DW now []) fun out =>
  some out
def Iu (n lo hi : Int) : Option Bool :=
  if lo ≤ n then
  (some (decide (n ≤ hi)))
  else
  (some false)
def Jt (An _Ad : Int) (_Ao : Nn) (_Av : List Int) (_Ba : NP) (h : Int) : Option Bool :=
  gd (C6 (An - 1)) <|
  b1 (Iu h 0 (An - 1)) fun ok =>
  some ok
def HE : Option Int :=
  some 0
def ET (An Ad : Int) (Ao : Nn) (Av : List Int) (Ba : NP) (l : List Int) : List Int → Int → Option Int
  | [], _k =>
  HE
  | x :: aa, k =>
  b1 (Jt An Ad Ao Av Ba x) fun ok =>
  if (!ok) = true then
  (some 1)
  else
  (gd ((0 ≤ (0 : Int) ∧ (0 : Int) ≤ k) ∧ k ≤ l.length) <|
  bv (sl l 0 k) fun l2 =>
  b1 (Cm l2 x) fun ab =>
  if ab = true then
  (some 5)
  else
  (ET An Ad Ao Av Ba l aa (k + 1)))
def I4 (An Ad : Int) (Ao : Nn) (Av : List Int) (Ba : NP) (l : List Int) : Option Int :=
  ET An Ad Ao Av Ba l l 0
def EN : Option Int :=
  some (-1)
def B8 (f : Int → Option Bool) : List Int → Int → Option Int
  | [], _k =>
  EN
  | x :: aa, k =>
  b1 (f x) fun ok =>
  if ok = true then
  (some k)
  else
  (B8 f aa (k + 1))
def Ep (s_ : List Int) (f : Int → Option Bool) : Option Int :=
  B8 f s_ 0
def BD (s_ : List Int) (f : Int → Option Bool) : Option Bool :=
  b1 (Ep s_ f) fun n =>
  some (decide (0 ≤ n))
def Hs (x : Int) (so : Int → Option Bool) : Option Bool :=
  b1 (so x) fun ok =>
  some (!ok)
def Kk (l : List Int) (so : Int → Option Bool) : Option Bool :=
  b1 (BD l (fun aa : Int => Hs aa so)) fun ok =>
  some (!ok)
def EC : Option Int :=
  some (-1)
def CT (f : C4 → Option Bool) : Nn → Int → Option Int
  | [], _k =>
  EC
  | x :: aa, k =>
  b1 (f x) fun ok =>
  if ok = true then
  (some k)
  else
  (CT f aa (k + 1))
def Fh (s_ : Nn) (f : C4 → Option Bool) : Option Int :=
  CT f s_ 0
def EH (s_ : Nn) (f : C4 → Option Bool) : Option Bool :=
  b1 (Fh s_ f) fun n =>
  some (decide (0 ≤ n))
def GQ (x : C4) (so : C4 → Option Bool) : Option Bool :=
  b1 (so x) fun ok =>
  some (!ok)
def JC (l : Nn) (so : C4 → Option Bool) : Option Bool :=
  b1 (EH l (fun aa : C4 => GQ aa so)) fun ok =>
  some (!ok)
def FO (l : C4) : Option Bool :=
  some (decide ((l.length : Int) = 8))
def Iq (An Ad : Int) (Ao : Nn) (Av : List Int) (Ba : NP) : Option Bool :=
  b1 (Iu An 1 6) fun ok =>
  if ok = true then
  (b1 (Iu Ad 1 4) fun aa =>
  if aa = true then
  (b1 (Iu (Ao.length : Int) 1 4) fun ab =>
  if ab = true then
  (b1 (Iu (Av.length : Int) 1 8) fun ad =>
  if ad = true then
  (if (Ba.length : Int) ≤ 12 then
  (b1 (JC Ao (fun ae : C4 => FO ae)) fun af =>
  some af)
  else
  (some false))
  else
  (some false))
  else
  (some false))
  else
  (some false))
  else
  (some false)
def MI (n : Int) : Option Bool :=
  if n = (-1) then
  (some true)
  else
  (b1 (Iu n 0 7) fun ok =>
  some ok)
def Dl : Option Int :=
  some (-1)
def B5 (f : (Int × Int × Int) → Option Bool) : NP → Int → Option Int
  | [], _k =>
  Dl
  | x :: aa, k =>
  b1 (f (x.1, x.2.1, x.2.2)) fun ok =>
  if ok = true then
  (some k)
  else
  (B5 f aa (k + 1))
def DR (s_ : NP) (f : (Int × Int × Int) → Option Bool) : Option Int :=
  B5 f s_ 0
def Dt (s_ : NP) (f : (Int × Int × Int) → Option Bool) : Option Bool :=
  b1 (DR s_ f) fun n =>
  some (decide (0 ≤ n))
def Hq (hour E4 I1 : Int) (so : (Int × Int × Int) → Option Bool) : Option Bool :=
  b1 (so (hour, E4, I1)) fun ok =>
  some (!ok)
def JY (l : NP) (so : (Int × Int × Int) → Option Bool) : Option Bool :=
  b1 (Dt l (fun aa : (Int × Int × Int) => Hq aa.1 aa.2.1 aa.2.2 so)) fun ok =>
  some (!ok)
def I5 (_An Ad : Int) (_Ao : Nn) (_Av : List Int) (_Ba : NP) (n : Int) : Option Bool :=
  gd (C6 (Ad - 1)) <|
  b1 (Iu n 0 (Ad - 1)) fun ok =>
  some ok
def Kh (_An _Ad : Int) (_Ao : Nn) (Av : List Int) (_Ba : NP) (h : Int) : Option Bool :=
  gd (C6 ((Av.length : Int) - 1)) <|
  b1 (Iu h 0 ((Av.length : Int) - 1)) fun ok =>
  some ok
def JI (hour E4 I1 An Ad : Int) (Ao : Nn) (Av : List Int) (Ba : NP) : Option Bool :=
  b1 (Kh An Ad Ao Av Ba hour) fun ok =>
  if ok = true then
  (gd (C6 ((Ao.length : Int) - 1)) <|
  b1 (Iu E4 0 ((Ao.length : Int) - 1)) fun aa =>
  if aa = true then
  (b1 (I5 An Ad Ao Av Ba I1) fun ab =>
  some ab)
  else
  (some false))
  else
  (some false)
def KK (rec2 : Option Int) : Option Int :=
  rec2
def HI (An Ad : Int) (Ao : Nn) (Av : List Int) (Ba : NP) (rec2 : Option Int) : C4 → Option Int
  | [] =>
  KK rec2
  | x2 :: aa =>
  b1 (I4 An Ad Ao Av Ba x2) fun n =>
  if n ≠ 0 then
  (some n)
  else
  (HI An Ad Ao Av Ba rec2 aa)
def KG (An Ad : Int) (Ao : Nn) (Av : List Int) (Ba : NP) : Option Int :=
  b1 (Kk Av (fun aa : Int => MI aa)) fun ab =>
  if (!ab) = true then
  (some 3)
  else
  (b1 (JY Ba (fun aa : (Int × Int × Int) => JI aa.1 aa.2.1 aa.2.2 An Ad Ao Av Ba)) fun ad =>
  if (!ad) = true then
  (some 1)
  else
  (some 0))
def FJ (An Ad : Int) (Ao : Nn) (Av : List Int) (Ba : NP) : Nn → Option Int
  | [] =>
  KG An Ad Ao Av Ba
  | x :: aa =>
  HI An Ad Ao Av Ba (FJ An Ad Ao Av Ba aa) x
def NN (An Ad : Int) (Ao : Nn) (Av : List Int) (Ba : NP) : Option Int :=
  b1 (Iq An Ad Ao Av Ba) fun ok =>
  if (!ok) = true then
  (some 2)
  else
  (FJ An Ad Ao Av Ba Ao)
def Mh (An Ad : Int) (Ao : Nn) (Av : List Int) (Ba : NP) : Option ((Option (Int × Int × Nn × (List Int) × NP)) × Int) :=
  b1 (NN An Ad Ao Av Ba) fun n =>
  if n ≠ 0 then
  (some (none, n))
  else
  (some (some (An, Ad, Ao, Av, Ba), 0))
def O9 (An Ad : Int) (Ao : Nn) (Av : List Int) (Ba : NP) : Option ((Option (Int × Int × Nn × (List Int) × NP)) × (List ((List Bool) × (List Int))) × Int) :=
  b2 (Mh An Ad Ao Av Ba) fun d n =>
  if n ≠ 0 then
  (some (none, [], n))
  else
  (b5 d fun ad ab ae aa af =>
  b1 (IE ad ab ae aa af) fun l =>
  if (l.length : Int) = 0 then
  (some (none, [], 7))
  else
  (some (some (ad, ab, ae, aa, af), l, 0)))
def E6 (k k2 : Int) : List ((List Bool) × (List Int)) → Int → Option Int
  | [], aa =>
  some aa
  | x :: ab, aa =>
  gd (0 ≤ k ∧ k < 6) <|
  gd (0 ≤ k2 ∧ k2 < 4) <|
  ix x.1 (k * 4 + k2) fun x2 =>
  if x2 = true then
  (gd (C6 (aa + 1)) <|
  E6 k k2 ab (aa + 1))
  else
  (E6 k k2 ab aa)
def Gi (l : List ((List Bool) × (List Int))) (k : Int) : Nat → Int → C4 → Option C4
  | 0, _k2, aa =>
  some aa
  | ae + 1, k2, aa =>
  b1 (b1 (E6 k k2 l 0) fun many =>
  b1 (if many = (l.length : Int) then
  (some 1)
  else
  (if many = 0 then
  (some 2)
  else
  (some 0))) fun v =>
  ix aa k fun x3 =>
  ap x3 [v] fun l3 =>
  bv (aa.set (k : Int).toNat l3) fun ab =>
  some ab) fun ad =>
  Gi l k ae (k2 + 1) ad
def FV (Ad : Int) (l : List ((List Bool) × (List Int))) : Nat → Int → C4 → Option C4
  | 0, _k, aa =>
  some aa
  | ad + 1, k, aa =>
  b1 (gd (C6 0 ∧ C6 Ad) <|
  Gi l k (Int.toNat (Ad - 0)) 0 aa) fun ab =>
  FV Ad l ad (k + 1) ab
def KF (An Ad : Int) (Ao : Nn) (Av : List Int) (Ba : NP) : Option (C4 × Int) :=
  b3 (O9 An Ad Ao Av Ba) fun _d l n =>
  if n ≠ 0 then
  (some ([], n))
  else
  (gd (0 ≤ An ∧ An ≤ 1048576) <|
  bv (List.replicate (An : Int).toNat [] : C4) fun l2 =>
  b1 (gd (C6 0 ∧ C6 (l2.length : Int)) <|
  FV Ad l (Int.toNat ((l2.length : Int) - 0)) 0 l2) fun out =>
  some (out, 0))
def Ln (n lo hi : Int) : Option Bool :=
  if lo ≤ n then
  (some (decide (n ≤ hi)))
  else
  (some false)
def Iw (_wide : Int) (BA : List Int) (p : Int) : Option Bool :=
  gd (C6 ((BA.length : Int) - 1)) <|
  b1 (Ln p 0 ((BA.length : Int) - 1)) fun ok =>
  some ok
def LG (wide : Int) (BA : List Int) (p kind : Int) : Option Int :=
  b1 (Iw wide BA p) fun ok =>
  if (!ok) = true then
  (some 1)
  else
  (ix BA p fun x =>
  if x ≠ kind then
  (some 8)
  else
  (some 0))
def Dd : Option Int :=
  some (-1)
def BX (f : Int → Option Bool) : List Int → Int → Option Int
  | [], _k =>
  Dd
  | x :: aa, k =>
  b1 (f x) fun ok =>
  if ok = true then
  (some k)
  else
  (BX f aa (k + 1))
def DB (s_ : List Int) (f : Int → Option Bool) : Option Int :=
  BX f s_ 0
def Dc (s_ : List Int) (f : Int → Option Bool) : Option Bool :=
  b1 (DB s_ f) fun n =>
  some (decide (0 ≤ n))
def GW (x : Int) (so : Int → Option Bool) : Option Bool :=
  b1 (so x) fun ok =>
  some (!ok)
def Jo (l : List Int) (so : Int → Option Bool) : Option Bool :=
  b1 (Dc l (fun aa : Int => GW aa so)) fun ok =>
  some (!ok)
def JJ (p : Int) : Option Bool :=
  b1 (Ln p 0 2) fun ok =>
  some ok
def Ec : List Int → Int → Option Int
  | [], n2 =>
  some n2
  | x :: aa, n2 =>
  if x = 1 then
  (gd (C6 (n2 + 1)) <|
  Ec aa (n2 + 1))
  else
  (Ec aa n2)
def IU (_wide : Int) (BA : List Int) : Option Int :=
  b1 (Ec BA 0) fun n =>
  some n
def NG (wide : Int) (BA : List Int) : Option Int :=
  b1 (b1 (Ln wide 1 6) fun ok =>
  if (!ok) = true then
  (some true)
  else
  (b1 (Ln (BA.length : Int) 1 30) fun aa =>
  if (!aa) = true then
  (some true)
  else
  (gd (wide ≠ 0) <|
  some (decide ((Int.tmod (BA.length : Int) wide) ≠ 0))))) fun k =>
  if k = true then
  (some 2)
  else
  (b1 (Jo BA (fun ab : Int => JJ ab)) fun ad =>
  if (!ad) = true then
  (some 3)
  else
  (b1 (IU wide BA) fun n =>
  if 10 < n then
  (some 2)
  else
  (some 0)))
def Km (w : Int) : Option Bool :=
  b1 (Ln w 0 4) fun ok =>
  some ok
def Nu : Option (List (Int × (Int × Int))) :=
  bv (H8 [] 1 (-1, 0)) fun met =>
  bv (H8 met 2 (0, 1)) fun aa =>
  bv (H8 aa 3 (1, 0)) fun ab =>
  bv (H8 ab 4 (0, -1)) fun ad =>
  some ad
def Mb (wide : Int) (BA : List Int) (Dy : Int) : Option ((Option (Int × (List Int) × Int × Int × Bool)) × Int) :=
  b1 (NG wide BA) fun n =>
  if n ≠ 0 then
  (some (none, n))
  else
  (b1 (Km Dy) fun ok =>
  if (!ok) = true then
  (some (none, 3))
  else
  (b1 (Nu) fun m =>
  some (some (wide, BA, ((Bm m Dy).getD (0, 0)).1, ((Bm m Dy).getD (0, 0)).2, (Bm m Dy).isSome), 0)))
def KM (wide : Int) (BA : List Int) (Dy E4 : Int) : Option ((Option (Int × (List Int) × Int × Int × Bool)) × Int) :=
  b2 (Mb wide BA Dy) fun d n =>
  if n ≠ 0 then
  (some (none, n))
  else
  (b1 (LG wide BA E4 0) fun n2 =>
  if n2 ≠ 0 then
  (some (none, n2))
  else
  (some (d, 0)))
def Iy (_wide : Int) (BA : List Int) (p : Int) : Option Bool :=
  ix BA p fun x =>
  some (decide (x = 2))
def JT (down Cy : Int) : Option (Int × Int) :=
  gd (C6 (-down)) <|
  gd (C6 (-Cy)) <|
  some (-down, -Cy)
def HV (_wide : Int) (BA : List Int) (down Cy : Int) (EE : Bool) (ab aa to : Int) : Option Int :=
  b1 (if (!EE) = true then
  (some 2)
  else
  (if ab = down ∧ aa = Cy then
  (some 1)
  else
  (b2 (JT down Cy) fun n2 n3 =>
  if ab = n2 ∧ aa = n3 then
  (some 4)
  else
  (some 2)))) fun n =>
  ix BA to fun x =>
  if x = 1 then
  (gd (C6 (n + 1)) <|
  some (n + 1))
  else
  (some n)
def Co (p wide : Int) (BA : List Int) (down Cy : Int) (EE : Bool) (closed : Int → Option Bool) : Nat → Int → Option (List (Int × Int))
  | 0, _k =>
  some []
  | aa + 1, k =>
  ix [(-1, 0), (0, -1), (0, 1), (1, 0)] k fun x =>
  gd (C6 (x.1 * wide)) <|
  gd (C6 (p + (x.1 * wide))) <|
  gd (C6 ((p + (x.1 * wide)) + x.2)) <|
  b1 (Iw wide BA ((p + (x.1 * wide)) + x.2)) fun ok =>
  if (!ok) = true then
  (Co p wide BA down Cy EE closed aa (k + 1))
  else
  (if x.1 = 0 then
  (gd ((wide : Int) ≠ 0 ∧ C6 (Int.tdiv ((p + (x.1 * wide)) + x.2) wide)) <|
  gd ((wide : Int) ≠ 0 ∧ C6 (Int.tdiv p wide)) <|
  if (Int.tdiv ((p + (x.1 * wide)) + x.2) wide) ≠ (Int.tdiv p wide) then
  (Co p wide BA down Cy EE closed aa (k + 1))
  else
  (b1 (closed ((p + (x.1 * wide)) + x.2)) fun ab =>
  if ab = true then
  (Co p wide BA down Cy EE closed aa (k + 1))
  else
  (b1 (HV wide BA down Cy EE x.1 x.2 ((p + (x.1 * wide)) + x.2)) fun n =>
  yl ((p + (x.1 * wide)) + x.2, n) <|
  Co p wide BA down Cy EE closed aa (k + 1))))
  else
  (b1 (closed ((p + (x.1 * wide)) + x.2)) fun ad =>
  if ad = true then
  (Co p wide BA down Cy EE closed aa (k + 1))
  else
  (b1 (HV wide BA down Cy EE x.1 x.2 ((p + (x.1 * wide)) + x.2)) fun n2 =>
  yl ((p + (x.1 * wide)) + x.2, n2) <|
  Co p wide BA down Cy EE closed aa (k + 1))))
def IV (p wide : Int) (BA : List Int) (down Cy : Int) (EE : Bool) (closed : Int → Option Bool) : Option (List (Int × Int)) :=
  gd (C6 0 ∧ C6 4) <|
  Co p wide BA down Cy EE closed (Int.toNat (4 - 0)) 0
def J9 (wide : Int) (BA : List Int) (down Cy : Int) (EE : Bool) (p : Int) : Option (List (Int × Int)) :=
  b1 (IV p wide BA down Cy EE (fun aa : Int => Iy wide BA aa)) fun l =>
  some l
def Fy : Nat → Int → (List Int) → Option (List Int)
  | 0, _k, aa =>
  some aa
  | ad + 1, k, aa =>
  ix aa k fun _x =>
  bv (aa.set (k : Int).toNat (-1)) fun ab =>
  Fy ad (k + 1) ab
def EL (x3 : Int) (rec2 : (List Int) → (List Int) → Option (List Int)) : List (Int × Int) → (List Int) → (List Int) → Option (List Int)
  | [], aa, ab =>
  rec2 aa ab
  | x4 :: ae, aa, ab =>
  b1 (ix aa x4.1 fun x5 =>
  if x5 = (-1) then
  (some true)
  else
  (ix aa x3 fun x6 =>
  gd (C6 (x6 + x4.2)) <|
  some (decide ((x6 + x4.2) < x5)))) fun k2 =>
  if k2 = true then
  (ix aa x3 fun x7 =>
  gd (C6 (x7 + x4.2)) <|
  ix aa x4.1 fun _x8 =>
  bv (aa.set (x4.1 : Int).toNat (x7 + x4.2)) fun l2 =>
  ap ab [x4.1] fun ad =>
  EL x3 rec2 ae l2 ad)
  else
  (EL x3 rec2 ae aa ab)
def EK (wide : Int) (BA : List Int) (down Cy : Int) (EE : Bool) : Nat → (List Int) → (List Int) → Option (List Int)
  | 0, _, _ => none
  | ad + 1, aa, line =>
  if 0 < (line.length : Int) then
  (ix line 0 fun x3 =>
  gd ((0 ≤ (1 : Int) ∧ (1 : Int) ≤ (line.length : Int)) ∧ (line.length : Int) ≤ line.length) <|
  bv (sl line 1 (line.length : Int)) fun ab =>
  b1 (J9 wide BA down Cy EE x3) fun y =>
  EL x3 (EK wide BA down Cy EE ad) y aa ab)
  else
  (some aa)
def J2 (wide : Int) (BA : List Int) (down Cy : Int) (EE : Bool) (E4 : Int) : Option (List Int) :=
  gd (0 ≤ (BA.length : Int) ∧ (BA.length : Int) ≤ 1048576) <|
  bv (List.replicate ((BA.length : Int) : Int).toNat 0 : List Int) fun l =>
  b1 (gd (C6 0 ∧ C6 (l.length : Int)) <|
  Fy (Int.toNat ((l.length : Int) - 0)) 0 l) fun out =>
  ix out E4 fun _x2 =>
  bv (out.set (E4 : Int).toNat 0) fun aa =>
  b1 (EK wide BA down Cy EE FU aa [E4]) fun ab =>
  some ab
def Nw (wide : Int) (BA : List Int) (Dy E4 : Int) : Option ((List Int) × Int) :=
  b2 (KM wide BA Dy E4) fun d n =>
  if n ≠ 0 then
  (some ([], n))
  else
  (b5 d fun ab aa down Cy EE =>
  b1 (J2 ab aa down Cy EE E4) fun l =>
  some (l, 0))
def Fg (x : List Int) : Nat → (List Int) → Nat → Option (List Int)
  | 0, _, _ => none
  | ab + 1, aa, pos =>
  if pos < x.length then
  (ix x (pos : Nat) fun c =>
  gd (0 ≤ c ∧ c < 128) <|
  b1 (if c = 115 then
  (some 0)
  else
  (some 2)) fun p =>
  b1 (if c = 104 then
  (some 1)
  else
  (some p)) fun p2 =>
  ap aa [p2] fun t =>
  Fg x ab t (pos + 1))
  else
  (some aa)
def Fm : C4 → Int → (List Int) → Option (Int × (List Int))
  | [], ab, aa =>
  some (ab, aa)
  | x :: ae, _ab, aa =>
  b1 (Fg x FU aa 0) fun ad =>
  Fm ae (x.length : Int) ad
def Jr (rows : C4) : Option (Int × (List Int)) :=
  b2 (Fm rows 0 []) fun ab aa =>
  some (ab, aa)
def JD : Option (C4 × C4 × Int × Int × O4) :=
  some ([[0, 2, -1], [2, 0, 2], [-1, 2, 0]], [[0], [1], [1, 2]], 3, 0, [([0, 2], 3, 12), ([1], 1, 20)])
def Ke : Option (Int × Int × Nn × (List Int) × NP) :=
  some (2, 1, [[[0], [0, 1], [1], [1], [], [], [], []]], [1, -1, 4], [(0, 0, 0), (2, 0, 0)])
def Ga : Option Bool :=
  some true
def DV (s2 : List Int) : List Int → Int → Option Bool
  | [], _k =>
  Ga
  | x :: aa, k =>
  ix s2 k fun x2 =>
  if x ≠ x2 then
  (some false)
  else
  (DV s2 aa (k + 1))
def Hl (s1 s2 : List Int) : Option Bool :=
  if (s1.length : Int) ≠ (s2.length : Int) then
  (some false)
  else
  (DV s2 s1 0)
def IY (a b : List Int) : Option Bool :=
  b1 (Hl a b) fun ok =>
  some ok
def BH : Option Bool :=
  some true
def Bb (s2 : C4) (eq : ((List Int) × (List Int)) → Option Bool) : C4 → Int → Option Bool
  | [], _k =>
  BH
  | x :: aa, k =>
  ix s2 k fun x2 =>
  b1 (eq (x, x2)) fun ok =>
  if (!ok) = true then
  (some false)
  else
  (Bb s2 eq aa (k + 1))
def BO (s1 s2 : C4) (eq : ((List Int) × (List Int)) → Option Bool) : Option Bool :=
  if (s1.length : Int) ≠ (s2.length : Int) then
  (some false)
  else
  (Bb s2 eq s1 0)
def CZ : Option Bool :=
  some true
def BS (s2 : List Int) : List Int → Int → Option Bool
  | [], _k =>
  CZ
  | x :: aa, k =>
  ix s2 k fun x2 =>
  if x ≠ x2 then
  (some false)
  else
  (BS s2 aa (k + 1))
def Cu (s1 s2 : List Int) : Option Bool :=
  if (s1.length : Int) ≠ (s2.length : Int) then
  (some false)
  else
  (BS s2 s1 0)
def FK (a b : C4) : Option Bool :=
  b1 (BO a b (fun aa : (List Int) × (List Int) => Cu aa.1 aa.2)) fun ok =>
  some ok
def HU : Option Bool :=
  b2 (Jr [[115, 104, 115, 104]]) fun n l =>
  b2 (Nw n l 4 0) fun l2 n2 =>
  b5 (JD) fun l3 l4 n3 n4 l5 =>
  b3 (Nr l3 l4 n3 n4 l5) fun _l6 n5 n6 =>
  b5 (Ke) fun n7 n8 l7 l8 l9 =>
  b2 (KF n7 n8 l7 l8 l9) fun aa n9 =>
  if n2 = 0 then
  (if n6 = 0 then
  (if n9 = 0 then
  (b1 (IY l2 [0, 5, 9, 14]) fun ok =>
  if ok = true then
  (if n5 = 11 then
  (b1 (FK aa [[0], [1]]) fun ab =>
  some ab)
  else
  (some false))
  else
  (some false))
  else
  (some false))
  else
  (some false))
  else
  (some false)
def Fx (metal : List Int) (at_ GK : Int) : Option (Int × Int × Int) :=
  b2 (if at_ = (metal.length : Int) then
  (some (0, (GK + 1) % 4294967296))
  else
  (some (at_, GK))) fun ab aa =>
  bv ((30011 * aa) % 4294967296) fun n =>
  b2 (if 0 < (metal.length : Int) then
  (ix metal ab fun x =>
  bv ((n + ((263 * (x % 4294967296)) % 4294967296)) % 4294967296) fun n3 =>
  gd (C6 (ab + 1)) <|
  some (n3, ab + 1))
  else
  (some (n, ab))) fun n2 ad =>
  gd (C6 (Qu 32 (Q9 32 n2 (shr n2 7)) 65535)) <|
  some (Qu 32 (Q9 32 n2 (shr n2 7)) 65535, ad, aa)
def Ee (metal : List Int) (at_ GK n : Int) : Option (Int × Int × Int) :=
  b3 (Fx metal at_ GK) fun n2 ab aa =>
  gd (C6 (n + 1)) <|
  gd ((if n + 1 > 1 then n + 1 else 1) ≠ 0) <|
  some (Int.tmod n2 (if n + 1 > 1 then n + 1 else 1), ab, aa)
def Eb (metal : List Int) (at_ GK lo hi : Int) : Option (Int × Int × Int) :=
  gd (C6 (hi - lo)) <|
  b3 (Ee metal at_ GK (hi - lo)) fun n ab aa =>
  gd (C6 (lo + n)) <|
  some (lo + n, ab, aa)
def CG (metal : List Int) (at_ GK n : Int) : Option (Bool × Int × Int) :=
  gd (C6 (n - 1)) <|
  b3 (Ee metal at_ GK (n - 1)) fun n2 ab aa =>
  some (decide (n2 = 0), ab, aa)
def Dp (aa : Int) : List Int → Bool → Option Bool
  | [], ab =>
  some ab
  | x2 :: ad, ab =>
  if ab = true then
  (Dp aa ad true)
  else
  (gd (0 ≤ x2 ∧ x2 < 64) <|
  Dp aa ad (decide ((Fa (shr aa x2) 1) = 1)))
def DZ (B0 : Int) : C4 → Int → Int → Option Int
  | [], _k, aa =>
  some aa
  | x :: ad, k, aa =>
  b1 (b1 (Dp aa x (decide ((x.length : Int) = 0))) fun ae =>
  b1 (if ae = true then
  (gd (0 ≤ k ∧ k < 64) <|
  some (decide ((Fa (shr B0 k) 1) = 0)))
  else
  (some false)) fun k3 =>
  if k3 = true then
  (gd ((0 ≤ (k : Int) ∧ (k : Int) < 64) ∧ C6 (shl 1 k)) <|
  some (Oe aa (shl 1 k)))
  else
  (some aa)) fun ab =>
  DZ B0 ad (k + 1) ab
def HN (Ap : C4) (B0 : Int) : Option Int :=
  b1 (DZ B0 Ap 0 0) fun out =>
  some out
def DG (metal : List Int) : Nat → Int → Int → Int → (List Int) → Option (Int × Int × (List Int))
  | 0, _k2, ab, aa, l2 =>
  some (ab, aa, l2)
  | af + 1, k2, ab, aa, l2 =>
  b3 (CG metal ab aa 2) fun ok ae ad =>
  if ok = true then
  (ap l2 [k2] fun l3 =>
  DG metal af (k2 + 1) ae ad l3)
  else
  (DG metal af (k2 + 1) ae ad l2)
def D3 (metal : List Int) : Nat → Int → Int → Int → C4 → Option (Int × Int × C4)
  | 0, _k, ah, ab, aa =>
  some (ah, ab, aa)
  | av + 1, k, ah, ab, aa =>
  b3 (b3 (gd (C6 0 ∧ C6 k) <|
  DG metal (Int.toNat (k - 0)) 0 ah ab []) fun ai ad l =>
  b3 (b3 (if 0 < k then
  (if (l.length : Int) = 0 then
  (b3 (CG metal ai ad 4) fun aw au ao =>
  some (au, ao, !aw))
  else
  (some (ai, ad, false)))
  else
  (some (ai, ad, false))) fun al af k3 =>
  if k3 = true then
  (gd (C6 (k - 1)) <|
  ap l [k - 1] fun l5 =>
  some (al, af, l5))
  else
  (some (al, af, l))) fun aq aj l4 =>
  ap aa [l4] fun w =>
  some (aq, aj, w)) fun ar ak ae =>
  D3 metal av (k + 1) ar ak ae
def DE (metal : List Int) : C4 → Int → Int → Int → Int → Option (Int × Int × Int)
  | [], _k5, ad, ab, aa =>
  some (ad, ab, aa)
  | _x :: ah, k5, ad, ab, aa =>
  b3 (CG metal ad ab 4) fun ai af ae =>
  if ai = true then
  (gd ((0 ≤ (k5 : Int) ∧ (k5 : Int) < 64) ∧ C6 (shl 1 k5)) <|
  DE metal ah (k5 + 1) af ae (UK aa (shl 1 k5)))
  else
  (DE metal ah (k5 + 1) af ae aa)
def DC (metal : List Int) (n3 : Int) : C4 → Int → Int → Int → (List Int) → Option (Int × Int × (List Int))
  | [], _k6, ab, aa, ad =>
  some (ab, aa, ad)
  | _x2 :: ak, k6, ab, aa, ad =>
  b1 (gd (0 ≤ k6 ∧ k6 < 64) <|
  if (Fa (shr n3 k6) 1) = 1 then
  (some 1)
  else
  (some 2)) fun m =>
  b3 (b3 (CG metal ab aa 3) fun al aj af =>
  if al = true then
  (some (aj, af, 0))
  else
  (some (aj, af, m))) fun ah ae m2 =>
  ap ad [m2] fun ai =>
  DC metal n3 ak (k6 + 1) ah ae ai
def Ea (metal : List Int) (aa : C4) : Nat → Int → Int → C4 → Int → (List Int) → Option (C4 × (List Int) × Int × Int)
  | 0, af, ad, ab, _B0, ah =>
  some (ab, ah, af, ad)
  | ax + 1, af, ad, ab, B0, ah =>
  b5 (b3 (DE metal aa 0 af ad B0) fun aq ai ae =>
  b1 (HN aa ae) fun n3 =>
  b3 (DC metal n3 aa 0 aq ai []) fun ar aj marks =>
  ap ab [marks] fun w2 =>
  ap ah [ae] fun av =>
  some (ar, aj, w2, ae, av)) fun au ak al ao aw =>
  Ea metal aa ax au ak al ao aw
def Hj (metal : List Int) (at_ GK men hours : Int) : Option (C4 × C4 × (List Int) × Int × Int) :=
  b3 (b3 (Eb metal at_ GK 1 men) fun n aj af =>
  gd (C6 0 ∧ C6 n) <|
  D3 metal (Int.toNat (n - 0)) 0 aj af []) fun ak ae aa =>
  b4 (b3 (Eb metal ak ae 1 hours) fun n2 al ah =>
  gd (C6 0 ∧ C6 n2) <|
  Ea metal aa (Int.toNat (n2 - 0)) al ah [] 0 []) fun ab real ai ad =>
  some (aa, ab, real, ai, ad)
def Dk (Ap _hours : C4) : Option Int :=
  gd ((0 ≤ ((Ap.length : Int) : Int) ∧ ((Ap.length : Int) : Int) < 64) ∧ C6 (shl 1 (Ap.length : Int))) <|
  some (shl 1 (Ap.length : Int))
def G6 (n lo hi : Int) : Option Bool :=
  if lo ≤ n then
  (some (decide (n ≤ hi)))
  else
  (some false)
def CY : Option Int :=
  some (-1)
def Bu (f : (List Int) → Option Bool) : C4 → Int → Option Int
  | [], _k =>
  CY
  | x :: aa, k =>
  b1 (f x) fun ok =>
  if ok = true then
  (some k)
  else
  (Bu f aa (k + 1))
def Cw (s_ : C4) (f : (List Int) → Option Bool) : Option Int :=
  Bu f s_ 0
def Cg (s_ : C4) (f : (List Int) → Option Bool) : Option Bool :=
  b1 (Cw s_ f) fun n =>
  some (decide (0 ≤ n))
def C0 (x : List Int) (so : (List Int) → Option Bool) : Option Bool :=
  b1 (so x) fun ok =>
  some (!ok)
def Dq (l : C4) (so : (List Int) → Option Bool) : Option Bool :=
  b1 (Cg l (fun aa : (List Int) => C0 aa so)) fun ok =>
  some (!ok)
def DX (m : Int) : Option Bool :=
  b1 (G6 m 0 2) fun ok =>
  some ok
def CV : Option Int :=
  some (-1)
def Bs (f : Int → Option Bool) : List Int → Int → Option Int
  | [], _k =>
  CV
  | x :: aa, k =>
  b1 (f x) fun ok =>
  if ok = true then
  (some k)
  else
  (Bs f aa (k + 1))
def Cq (s_ : List Int) (f : Int → Option Bool) : Option Int :=
  Bs f s_ 0
def Cb (s_ : List Int) (f : Int → Option Bool) : Option Bool :=
  b1 (Cq s_ f) fun n =>
  some (decide (0 ≤ n))
def Es (x : Int) (so : Int → Option Bool) : Option Bool :=
  b1 (so x) fun ok =>
  some (!ok)
def Gg (l : List Int) (so : Int → Option Bool) : Option Bool :=
  b1 (Cb l (fun aa : Int => Es aa so)) fun ok =>
  some (!ok)
def GG (l : List Int) : Option Bool :=
  b1 (Gg l (fun aa : Int => DX aa)) fun ok =>
  some ok
def HH (l : List Int) (men : Int) : Option Bool :=
  some (decide ((l.length : Int) = men))
def Kj (k2 : Int) (rec2 : Int → Option Int) : Option Int :=
  rec2 (k2 + 1)
def Ff (k2 : Int) (x : List Int) (rec2 : Int → Option Int) : List Int → Int → Option Int
  | [], _k3 =>
  Kj k2 rec2
  | x2 :: aa, k3 =>
  gd (C6 (k2 - 1)) <|
  b1 (G6 x2 0 (k2 - 1)) fun ab =>
  if (!ab) = true then
  (some 1)
  else
  (gd ((0 ≤ (0 : Int) ∧ (0 : Int) ≤ k3) ∧ k3 ≤ x.length) <|
  bv (sl x 0 k3) fun x3 =>
  b1 (Cm x3 x2) fun ad =>
  if ad = true then
  (some 5)
  else
  (Ff k2 x rec2 aa (k3 + 1)))
def Hh (hours : C4) : Option Int :=
  b1 (Dq hours (fun aa : (List Int) => GG aa)) fun ab =>
  if (!ab) = true then
  (some 3)
  else
  (some 0)
def DL (hours : C4) : C4 → Int → Option Int
  | [], _k2 =>
  Hh hours
  | x :: aa, k2 =>
  Ff k2 x (DL hours aa) x 0
def Ic (Ap hours : C4) : Option Int :=
  b1 (b1 (G6 (Ap.length : Int) 1 6) fun ok =>
  if (!ok) = true then
  (some true)
  else
  (b1 (G6 (hours.length : Int) 1 8) fun aa =>
  if (!aa) = true then
  (some true)
  else
  (b1 (Dq hours (fun ab : (List Int) => HH ab (Ap.length : Int))) fun ad =>
  some (!ad)))) fun k =>
  if k = true then
  (some 2)
  else
  (DL hours Ap 0)
def Er (m out : Int) : Option Bool :=
  gd (0 ≤ m ∧ m < 64) <|
  some (decide ((Fa (shr out m) 1) = 1))
def Cn (B0 : Int) : C4 → Int → Int → Option Int
  | [], _k, aa =>
  some aa
  | x :: ab, k, aa =>
  b1 (gd (0 ≤ k ∧ k < 64) <|
  if (Fa (shr B0 k) 1) = 0 then
  (if (x.length : Int) = 0 then
  (some true)
  else
  (b1 (BD x (fun ad : Int => Er ad aa)) fun ok =>
  some ok))
  else
  (some false)) fun k2 =>
  if k2 = true then
  (gd ((0 ≤ (k : Int) ∧ (k : Int) < 64) ∧ C6 (shl 1 k)) <|
  Cn B0 ab (k + 1) (Oe aa (shl 1 k)))
  else
  (Cn B0 ab (k + 1) aa)
def E8 (Ap _hours : C4) (CJ : List (Int × Int)) (B0 : Int) : Option (Int × (List (Int × Int))) :=
  if ((Bm CJ B0).isSome) = true then
  (some ((Bm CJ B0).getD 0, CJ))
  else
  (b1 (Cn B0 Ap 0 0) fun out =>
  bv (H8 CJ B0 out) fun met =>
  some (out, met))
def C1 (n : Int) : List Int → Int → Int → Option Int
  | [], _k, aa =>
  some aa
  | x2 :: ab, k, aa =>
  b1 (if x2 = 1 then
  (gd (0 ≤ k ∧ k < 64) <|
  if (Fa (shr n k) 1) = 0 then
  (some true)
  else
  (if x2 = 2 then
  (gd (0 ≤ k ∧ k < 64) <|
  some (decide ((Fa (shr n k) 1) = 1)))
  else
  (some false)))
  else
  (if x2 = 2 then
  (gd (0 ≤ k ∧ k < 64) <|
  some (decide ((Fa (shr n k) 1) = 1)))
  else
  (some false))) fun k2 =>
  if k2 = true then
  (gd ((0 ≤ (k : Int) ∧ (k : Int) < 64) ∧ C6 (shl 1 k)) <|
  C1 n ab (k + 1) (Oe aa (shl 1 k)))
  else
  (C1 n ab (k + 1) aa)
def Gd (Ap hours : C4) (CJ : List (Int × Int)) (hour B0 : Int) : Option (Int × (List (Int × Int))) :=
  b2 (E8 Ap hours CJ B0) fun n aa =>
  b1 (ix hours hour fun x =>
  C1 n x 0 0) fun out =>
  some (out, aa)
def ER (Ap hours : C4) (k : Int) : Nat → Int → (List (Int × Int)) → (List Bool) → Option ((List (Int × Int)) × (List Bool))
  | 0, _k2, aa, r4 =>
  some (aa, r4)
  | ab + 1, k2, aa, r4 =>
  b2 (Gd Ap hours aa k k2) fun n3 CJ =>
  ix r4 k2 fun _x2 =>
  bv (r4.set (k2 : Int).toNat (decide (n3 = 0))) fun r5 =>
  ER Ap hours k ab (k2 + 1) CJ r5
def DN (Ap hours : C4) : C4 → Int → (List (Int × Int)) → (List (List Bool)) → Option ((List (Int × Int)) × (List (List Bool)))
  | [], _k, aa, ab =>
  some (aa, ab)
  | _x :: ah, k, aa, ab =>
  b2 (b2 (b1 (Dk Ap hours) fun n2 =>
  gd (C6 0 ∧ C6 n2) <|
  ER Ap hours k (Int.toNat (n2 - 0)) 0 aa (List.replicate 64 false)) fun ad r3 =>
  ap ab [r3] fun l =>
  some (ad, l)) fun ae af =>
  DN Ap hours ah (k + 1) ae af
def Ht (Ap hours : C4) : Option ((Option (C4 × C4 × (List (Int × Int)) × (List (List Bool)))) × Int) :=
  b1 (Ic Ap hours) fun n =>
  if n ≠ 0 then
  (some (none, n))
  else
  (b2 (DN Ap hours hours 0 [] []) fun aa ab =>
  some (some (Ap, hours, aa, ab), 0))
def DK : Option Int :=
  some (-1)
def BN (v : List Bool) : List (List Bool) → Int → Option Int
  | [], _k =>
  DK
  | x :: aa, k =>
  if v = x then
  (some k)
  else
  (BN v aa (k + 1))
def C9 (s_ : List (List Bool)) (v : List Bool) : Option Int :=
  BN v s_ 0
def CP (s_ : List (List Bool)) (v : List Bool) : Option Bool :=
  b1 (C9 s_ v) fun n =>
  some (decide (0 ≤ n))
def Gf (_Ap _hours : C4) (rows : List (List Bool)) : Option Bool :=
  b1 (CP rows (List.replicate 64 false)) fun ok =>
  some ok
def JS (Ap hours : C4) : Option ((Option (C4 × C4 × (List (Int × Int)) × (List (List Bool)))) × Int) :=
  b2 (Ht Ap hours) fun d n =>
  if n ≠ 0 then
  (some (none, n))
  else
  (b4 d fun aa ab CJ rows =>
  b1 (Gf aa ab rows) fun ok =>
  if ok = true then
  (some (none, 7))
  else
  (some (some (aa, ab, CJ, rows), 0)))
def BL (s_ : List Int) : Option (List Int) :=
  Pn (s_ = []) (some []) (ap ([] : List Int) s_ fun l =>
  some l)
def C2 (rows : List (List Bool)) (hour : Int) : Nat → Int → Option (List Int)
  | 0, _k =>
  some []
  | aa + 1, k =>
  ix rows hour fun x =>
  ix x k fun x2 =>
  if x2 = true then
  (yl k <|
  C2 rows hour aa (k + 1))
  else
  (C2 rows hour aa (k + 1))
def Hn (Ap hours : C4) (rows : List (List Bool)) (hour : Int) : Option (List Int) :=
  b1 (Dk Ap hours) fun n =>
  gd (C6 0 ∧ C6 n) <|
  C2 rows hour (Int.toNat (n - 0)) 0
def Fo (Ap hours : C4) (rows : List (List Bool)) (hour : Int) : Option (List Int) :=
  b1 (Hn Ap hours rows hour) fun l =>
  some l
def CO : List Int → Int → Int → Option (Int × Int)
  | [], aa, ab =>
  some (aa, ab)
  | x5 :: ad, aa, ab =>
  CO ad (Oe aa x5) (Fa ab x5)
def CQ (some_ aa : Int) : C4 → Int → (List Int) → Option (List Int)
  | [], _k3, l3 =>
  some l3
  | _x6 :: ab, k3, l3 =>
  b1 (gd (0 ≤ k3 ∧ k3 < 64) <|
  if (Fa (shr aa k3) 1) = 1 then
  (some 1)
  else
  (some 0)) fun v =>
  b1 (gd (0 ≤ k3 ∧ k3 < 64) <|
  if (Fa (shr some_ k3) 1) = 0 then
  (some 2)
  else
  (some v)) fun v2 =>
  ap l3 [v2] fun l4 =>
  CQ some_ aa ab (k3 + 1) l4
def DD (Ap aa ab : C4) (rows : List (List Bool)) : C4 → Int → C4 → Option C4
  | [], _k, ad =>
  some ad
  | _x :: aj, k, ad =>
  b1 (b1 (if 0 < k then
  (ix rows k fun x2 =>
  gd (C6 (k - 1)) <|
  ix rows (k - 1) fun x3 =>
  some (decide (x2 = x3)))
  else
  (some false)) fun k2 =>
  if k2 = true then
  (gd (C6 (k - 1)) <|
  ix ad (k - 1) fun x4 =>
  b1 (BL x4) fun l =>
  ap ad [l] fun ae =>
  some ae)
  else
  (b1 (Dk aa ab) fun n2 =>
  gd (C6 (n2 - 1)) <|
  b2 (b1 (Fo aa ab rows k) fun y =>
  CO y 0 (n2 - 1)) fun some_ af =>
  b1 (CQ some_ af Ap 0 []) fun l2 =>
  ap ad [l2] fun ah =>
  some ah)) fun ai =>
  DD Ap aa ab rows aj (k + 1) ai
def G9 (Ap hours : C4) : Option (C4 × Int) :=
  b2 (JS Ap hours) fun d n =>
  if n ≠ 0 then
  (some ([], n))
  else
  (b1 (b4 d fun aa ab _CJ rows =>
  DD Ap aa ab rows hours 0 []) fun out =>
  some (out, 0))
def Ek (out : List Int) : Option ((List Int) × Bool) :=
  some (out, true)
def B9 : List Int → (List Int) → Option ((List Int) × Bool)
  | [], aa =>
  Ek aa
  | x3 :: af, aa =>
  bv (H8 [] 0 (-1)) fun met =>
  bv (H8 met 1 1) fun ad =>
  bv (H8 ad 2 0) fun ab =>
  if (!((Bm ab x3).isSome)) = true then
  (some ([], false))
  else
  (ap aa [(Bm ab x3).getD 0] fun ae =>
  B9 af ae)
def Cv (Ap hours : C4) : Option ((List Int) × Bool) :=
  b2 (G9 Ap hours) fun l n =>
  b1 (if n ≠ 0 then
  (some true)
  else
  (if (l.length : Int) ≠ (hours.length : Int) then
  (some true)
  else
  (ix l 0 fun x =>
  some (decide ((x.length : Int) ≠ (Ap.length : Int)))))) fun k =>
  if k = true then
  (some ([], false))
  else
  (ix l 0 fun x2 =>
  B9 x2 [])
def IB (n lo hi : Int) : Option Bool :=
  if lo ≤ n then
  (some (decide (n ≤ hi)))
  else
  (some false)
def FZ (x : Int) (holds : Int → Option Bool) : Option Bool :=
  b1 (holds x) fun ok =>
  some (!ok)
def D8 (l : List Int) (holds : Int → Option Bool) : Option Bool :=
  b1 (BD l (fun aa : Int => FZ aa holds)) fun ok =>
  some (!ok)
def G7 (n : Int) : Option Bool :=
  b1 (IB n (-1) 5) fun ok =>
  some ok
def EY (l : List Int) : Option Bool :=
  b1 (D8 l (fun aa : Int => G7 aa)) fun ok =>
  some ok
def EM (x : List Int) (holds : (List Int) → Option Bool) : Option Bool :=
  b1 (holds x) fun ok =>
  some (!ok)
def CH (l : C4) (holds : (List Int) → Option Bool) : Option Bool :=
  b1 (Db l (fun aa : (List Int) => EM aa holds)) fun ok =>
  some (!ok)
def Hp (n : Int) : Option Bool :=
  b1 (IB n 1 9) fun ok =>
  some ok
def Hu (n : Int) : Option Bool :=
  b1 (IB n 0 99) fun ok =>
  some ok
def EZ (l weights : List Int) (_Be : Int) (_lost _found : C4) (_AG : List Int) : Option Bool :=
  some (decide ((l.length : Int) = (weights.length : Int)))
def JV (weights : List Int) (Be : Int) (lost found : C4) (AG : List Int) : Option Int :=
  b1 (b1 (IB (weights.length : Int) 1 5) fun ok =>
  if (!ok) = true then
  (some true)
  else
  (if 6 < (lost.length : Int) then
  (some true)
  else
  (some (decide (6 < (found.length : Int)))))) fun k =>
  if k = true then
  (some 2)
  else
  (b1 (b1 (CH lost (fun aa : (List Int) => EZ aa weights Be lost found AG)) fun ab =>
  if (!ab) = true then
  (some true)
  else
  (b1 (CH found (fun aa : (List Int) => EZ aa weights Be lost found AG)) fun ad =>
  if (!ad) = true then
  (some true)
  else
  (some (decide ((AG.length : Int) ≠ (lost.length : Int)))))) fun k2 =>
  if k2 = true then
  (some 2)
  else
  (b1 (b1 (D8 weights (fun aa : Int => Hp aa)) fun ae =>
  if (!ae) = true then
  (some true)
  else
  (b1 (IB Be 0 3) fun af =>
  some (!af))) fun k3 =>
  if k3 = true then
  (some 3)
  else
  (b1 (D8 AG (fun aa : Int => Hu aa)) fun ah =>
  if (!ah) = true then
  (some 3)
  else
  (b1 (b1 (CH lost (fun aa : (List Int) => EY aa)) fun ai =>
  if (!ai) = true then
  (some true)
  else
  (b1 (CH found (fun aa : (List Int) => EY aa)) fun aj =>
  some (!aj))) fun k4 =>
  if k4 = true then
  (some 3)
  else
  (some 0)))))
def Dj (weights : List Int) (k k2 : Int) (x2 : List Int) : List Int → Int → (List Int) → (List Int) → Option ((List Int) × (List Int))
  | [], _k3, aa, ab =>
  some (aa, ab)
  | x3 :: ad, k3, aa, ab =>
  b1 (if x3 = (-1) then
  (some true)
  else
  (ix x2 k3 fun x4 =>
  some (decide (x4 = (-1))))) fun k4 =>
  if k4 = true then
  (Dj weights k k2 x2 ad (k3 + 1) aa ab)
  else
  (ix x2 k3 fun x5 =>
  if x3 = x5 then
  (gd (0 ≤ k ∧ k < 6) <|
  gd (0 ≤ k2 ∧ k2 < 6) <|
  ix aa (k * 6 + k2) fun x6 =>
  ix weights k3 fun x7 =>
  gd (C6 (x6 + x7)) <|
  gd (0 ≤ k ∧ k < 6) <|
  gd (0 ≤ k2 ∧ k2 < 6) <|
  bv (aa.set (k * 6 + k2 : Int).toNat (x6 + x7)) fun ws =>
  Dj weights k k2 x2 ad (k3 + 1) ws ab)
  else
  (gd (0 ≤ k ∧ k < 6) <|
  gd (0 ≤ k2 ∧ k2 < 6) <|
  ix ab (k * 6 + k2) fun x8 =>
  gd (C6 (x8 + 1)) <|
  gd (0 ≤ k ∧ k < 6) <|
  gd (0 ≤ k2 ∧ k2 < 6) <|
  bv (ab.set (k * 6 + k2 : Int).toNat (x8 + 1)) fun ae =>
  Dj weights k k2 x2 ad (k3 + 1) aa ae))
def Fi (weights : List Int) (k : Int) (x : List Int) : C4 → Int → (List Int) → (List Int) → Option ((List Int) × (List Int))
  | [], _k2, aa, ab =>
  some (aa, ab)
  | x2 :: af, k2, aa, ab =>
  b2 (Dj weights k k2 x2 x 0 aa ab) fun ad ae =>
  Fi weights k x af (k2 + 1) ad ae
def Fj (weights : List Int) (found : C4) : C4 → Int → (List Int) → (List Int) → Option ((List Int) × (List Int))
  | [], _k, aa, ab =>
  some (aa, ab)
  | x :: af, k, aa, ab =>
  b2 (Fi weights k x found 0 aa ab) fun ad ae =>
  Fj weights found af (k + 1) ad ae
def Ia (weights : List Int) (Be : Int) (lost found : C4) (AG : List Int) : Option ((Option ((List Int) × Int × C4 × C4 × (List Int) × (List Int) × (List Int))) × Int) :=
  b1 (JV weights Be lost found AG) fun n =>
  if n ≠ 0 then
  (some (none, n))
  else
  (b2 (Fj weights found lost 0 (List.replicate 36 0) (List.replicate 36 0)) fun aa ab =>
  some (some (weights, Be, lost, found, AG, aa, ab), 0))
def Ir (_weights : List Int) (_Be : Int) (lost _found : C4) (_AG _BE _Cr : List Int) (n : Int) : Option Bool :=
  gd (C6 ((lost.length : Int) - 1)) <|
  b1 (IB n 0 ((lost.length : Int) - 1)) fun ok =>
  some ok
def HT (_weights : List Int) (_Be : Int) (_lost found : C4) (_AG _BE _Cr : List Int) (n : Int) : Option Bool :=
  gd (C6 ((found.length : Int) - 1)) <|
  b1 (IB n 0 ((found.length : Int) - 1)) fun ok =>
  some ok
def FG (_weights : List Int) (Be : Int) (_lost _found : C4) (_AG BE Cr : List Int) (aa Cs : Int) : Option Bool :=
  gd (0 ≤ aa ∧ aa < 6) <|
  gd (0 ≤ Cs ∧ Cs < 6) <|
  ix BE (aa * 6 + Cs) fun x =>
  if 0 < x then
  (gd (0 ≤ aa ∧ aa < 6) <|
  gd (0 ≤ Cs ∧ Cs < 6) <|
  ix Cr (aa * 6 + Cs) fun x2 =>
  some (decide (x2 ≤ Be)))
  else
  (some false)
def IW (weights : List Int) (Be : Int) (lost found : C4) (AG : List Int) (aa Cs : Int) : Option (Int × Int × Bool × Int) :=
  b2 (Ia weights Be lost found AG) fun d n =>
  if n ≠ 0 then
  (some (0, 0, false, n))
  else
  (b1 (b7 d fun ab ae ak af ad BE Cr =>
  b1 (Ir ab ae ak af ad BE Cr aa) fun ok =>
  if (!ok) = true then
  (some true)
  else
  (b1 (HT ab ae ak af ad BE Cr Cs) fun au =>
  some (!au))) fun k =>
  if k = true then
  (some (0, 0, false, 1))
  else
  (b7 d fun ah ao ar aq ai aj al =>
  gd (0 ≤ aa ∧ aa < 6) <|
  gd (0 ≤ Cs ∧ Cs < 6) <|
  ix aj (aa * 6 + Cs) fun x =>
  gd (0 ≤ aa ∧ aa < 6) <|
  gd (0 ≤ Cs ∧ Cs < 6) <|
  ix al (aa * 6 + Cs) fun x2 =>
  b1 (FG ah ao ar aq ai aj al aa Cs) fun av =>
  some (x, x2, av, 0)))
def Dg (can : (Int × Int) → Option Bool) (aa : Int) : C4 → Int → Option (List Int)
  | [], _k =>
  some []
  | _x :: ab, k =>
  b1 (can (aa, k)) fun ok =>
  if ok = true then
  (yl k <|
  Dg can aa ab (k + 1))
  else
  (Dg can aa ab (k + 1))
def HR (_weights : List Int) (_Be : Int) (_lost found : C4) (_AG _BE _Cr : List Int) (can : (Int × Int) → Option Bool) (aa : Int) : Option (List Int) :=
  Dg can aa found 0
def HJ (weights : List Int) (Be : Int) (lost found : C4) (AG BE Cr : List Int) (aa : Int) : Option (List Int) :=
  b1 (HR weights Be lost found AG BE Cr (fun ab : Int × Int => FG weights Be lost found AG BE Cr ab.1 ab.2) aa) fun l =>
  some l
def BV (lost used : Int) (weights : List Int) (Be : Int) (ae found : C4) (AG BE Cr : List Int) (NF : (Int × Int) → Option Int) (af : Int → Int → (List Int) → Int → C4 → C4 → (List Int) → (List Int) → (List Int) → (List ((Int × Int) × (Int × Int × Int))) → ((Int × Int) → Option Int) → Option (Int × Int × Int × (List ((Int × Int) × (Int × Int × Int))))) : List Int → (List ((Int × Int) × (Int × Int × Int))) → Int → Int → Int → Option ((List ((Int × Int) × (Int × Int × Int))) × Int × Int × Int)
  | [], m2, ad, aa, ab =>
  some (m2, ad, aa, ab)
  | x3 :: ah, m2, ad, aa, ab =>
  gd (0 ≤ x3 ∧ x3 < 64) <|
  if (Fa (shr used x3) 1) = 1 then
  (BV lost used weights Be ae found AG BE Cr NF af ah m2 ad aa ab)
  else
  (gd (C6 (lost + 1)) <|
  gd ((0 ≤ (x3 : Int) ∧ (x3 : Int) < 64) ∧ C6 (shl 1 x3)) <|
  b4 (af (lost + 1) (Oe used (shl 1 x3)) weights Be ae found AG BE Cr m2 NF) fun _n4 n5 n6 x4 =>
  b1 (NF (lost, x3)) fun n7 =>
  gd (C6 (n5 + n7)) <|
  if aa < (n5 + n7) then
  (BV lost used weights Be ae found AG BE Cr NF af ah x4 x3 (n5 + n7) n6)
  else
  (if (n5 + n7) = aa then
  (gd (C6 (ab + n6)) <|
  BV lost used weights Be ae found AG BE Cr NF af ah x4 ad aa (ab + n6))
  else
  (BV lost used weights Be ae found AG BE Cr NF af ah x4 ad aa ab)))
def Fl (af : Int → Int → (List Int) → Int → C4 → C4 → (List Int) → (List Int) → (List Int) → (List ((Int × Int) × (Int × Int × Int))) → ((Int × Int) → Option Int) → Option (Int × Int × Int × (List ((Int × Int) × (Int × Int × Int))))) (lost used : Int) (weights : List Int) (Be : Int) (ae found : C4) (AG BE Cr : List Int) (x : List ((Int × Int) × (Int × Int × Int))) (NF : (Int × Int) → Option Int) : Option (Int × Int × Int × (List ((Int × Int) × (Int × Int × Int)))) :=
  if lost = (ae.length : Int) then
  (some (-1, 0, 1, x))
  else
  (if ((Bm x (lost, used)).isSome) = true then
  (some (((Bm x (lost, used)).getD (0, 0, 0)).1, ((Bm x (lost, used)).getD (0, 0, 0)).2.1, ((Bm x (lost, used)).getD (0, 0, 0)).2.2, x))
  else
  (gd (C6 (lost + 1)) <|
  b4 (af (lost + 1) used weights Be ae found AG BE Cr x NF) fun _n n2 n3 x2 =>
  b4 (b1 (HJ weights Be ae found AG BE Cr lost) fun y =>
  BV lost used weights Be ae found AG BE Cr NF af y x2 (-1) n2 n3) fun m aa ab ad =>
  bv (H8 m (lost, used) (aa, ab, ad)) fun met =>
  some (aa, ab, ad, met)))
def Da : Nat → Int → Int → (List Int) → Int → C4 → C4 → (List Int) → (List Int) → (List Int) → (List ((Int × Int) × (Int × Int × Int))) → ((Int × Int) → Option Int) → Option (Int × Int × Int × (List ((Int × Int) × (Int × Int × Int))))
  | 0, _, _, _, _, _, _, _, _, _, _, _ => none
  | fu + 1, lost, used, weights, Be, aa, found, AG, BE, Cr, x, NF =>
  Fl (Da fu) lost used weights Be aa found AG BE Cr x NF
def HW (weights : List Int) (Be : Int) (lost found : C4) (AG BE Cr : List Int) (NF : (Int × Int) → Option Int) (used : Int) : Option (List ((Int × Int) × (Int × Int × Int))) :=
  b4 (Da FU 0 used weights Be lost found AG BE Cr [] NF) fun n n2 n3 x =>
  bv (H8 x (0, used) (n, n2, n3)) fun met =>
  some met
def CN (m : List ((Int × Int) × (Int × Int × Int))) : C4 → Int → (List Int) → Int → Option (List Int)
  | [], _k, aa, _used =>
  some aa
  | _x :: ad, k, aa, used =>
  bv (((Bm m (k, used)).getD (0, 0, 0)).1) fun k2 =>
  ap aa [k2] fun ab =>
  if k2 ≠ (-1) then
  (gd ((0 ≤ (k2 : Int) ∧ (k2 : Int) < 64) ∧ C6 (shl 1 k2)) <|
  CN m ad (k + 1) ab (Oe used (shl 1 k2)))
  else
  (CN m ad (k + 1) ab used)
def Ip (weights : List Int) (Be : Int) (lost found : C4) (AG BE Cr : List Int) (NF : (Int × Int) → Option Int) : Option (List Int) :=
  b1 (HW weights Be lost found AG BE Cr NF 0) fun m =>
  b1 (CN m lost 0 [] 0) fun out =>
  some out
def D7 (i k : Int) (_weights : List Int) (_Be : Int) (_lost _found : C4) (_AG BE _Cr : List Int) : Option Int :=
  gd (0 ≤ i ∧ i < 6) <|
  gd (0 ≤ k ∧ k < 6) <|
  ix BE (i * 6 + k) fun x =>
  some x
def HS (weights : List Int) (Be : Int) (lost found : C4) (AG BE Cr : List Int) : Option ((Int × Int) → Option Int) :=
  some (fun aa : Int × Int => D7 aa.1 aa.2 weights Be lost found AG BE Cr)
def Ie : List Int → Int → Option Int
  | [], n2 =>
  some n2
  | x :: aa, n2 =>
  gd (C6 (n2 + x)) <|
  Ie aa (n2 + x)
def Ol (l : List Int) : Option Int :=
  b1 (Ie l 0) fun n =>
  some n
def CW (BE : List Int) : List Int → Int → (List Int) → Option (List Int)
  | [], _k, l2 =>
  some l2
  | x :: aa, k, l2 =>
  if x ≠ (-1) then
  (gd (0 ≤ k ∧ k < 6) <|
  gd (0 ≤ x ∧ x < 6) <|
  ix BE (k * 6 + x) fun x2 =>
  ap l2 [x2] fun l3 =>
  CW BE aa (k + 1) l3)
  else
  (CW BE aa (k + 1) l2)
def GC (_weights : List Int) (_Be : Int) (_lost _found : C4) (_AG BE _Cr aa : List Int) : Option Int :=
  b1 (CW BE aa 0 []) fun l =>
  b1 (Ol l) fun n =>
  some n
def JR (weights : List Int) (Be : Int) (lost found : C4) (AG : List Int) : Option ((List Int) × Int × Int) :=
  b2 (Ia weights Be lost found AG) fun d n =>
  if n ≠ 0 then
  (some ([], 0, n))
  else
  (b7 d fun aa ad ae Cs ab BE Cr =>
  b1 (HS aa ad ae Cs ab BE Cr) fun y =>
  b1 (Ip aa ad ae Cs ab BE Cr y) fun l =>
  b1 (GC aa ad ae Cs ab BE Cr l) fun n2 =>
  some (l, n2, 0))
def Dm (n : Int) : Option Bool :=
  some (decide (n ≠ (-1)))
def Jl (Ap hours : C4) (B0 : Int) : Option (Int × Int) :=
  b2 (Ht Ap hours) fun d n =>
  if n ≠ 0 then
  (some (0, n))
  else
  (b4 d fun aa ab CJ _rows =>
  b1 (Dk aa ab) fun n2 =>
  gd (C6 (n2 - 1)) <|
  b1 (G6 B0 0 (n2 - 1)) fun ok =>
  if (!ok) = true then
  (some (0, 3))
  else
  (b2 (E8 aa ab CJ B0) fun n3 _ad =>
  some (n3, 0)))
def FE (Ap hours : C4) (hour GX : Int) : Option Bool :=
  gd (C6 ((hours.length : Int) - 1)) <|
  b1 (G6 hour 0 ((hours.length : Int) - 1)) fun ok =>
  if ok = true then
  (gd (C6 ((Ap.length : Int) - 1)) <|
  b1 (G6 GX 0 ((Ap.length : Int) - 1)) fun aa =>
  some aa)
  else
  (some false)
def CE : C4 → Int → C4 → Option C4
  | [], _k, aa =>
  some aa
  | x :: ab, k, aa =>
  b1 (DY x) fun l3 =>
  ix aa k fun _x2 =>
  bv (aa.set (k : Int).toNat l3) fun l4 =>
  CE ab (k + 1) l4
def CF : C4 → Int → C4 → Option C4
  | [], _k2, aa =>
  some aa
  | x3 :: ab, k2, aa =>
  ix aa k2 fun _x4 =>
  gd (0 ≤ (x3.length : Int) ∧ (x3.length : Int) ≤ 1048576) <|
  bv (List.replicate ((x3.length : Int) : Int).toNat 0 : List Int) fun l5 =>
  bv (aa.set (k2 : Int).toNat l5) fun l6 =>
  ix l6 k2 fun x5 =>
  bv (X4 x5 x3) fun l7 =>
  bv (l6.set (k2 : Int).toNat l7) fun out =>
  CF ab (k2 + 1) out
def FT (Ap hours : C4) (hour GX m : Int) : Option (C4 × C4) :=
  gd (0 ≤ (Ap.length : Int) ∧ (Ap.length : Int) ≤ 1048576) <|
  gd (0 ≤ (hours.length : Int) ∧ (hours.length : Int) ≤ 1048576) <|
  bv (List.replicate ((hours.length : Int) : Int).toNat [] : C4) fun l =>
  bv (List.replicate (Int.toNat (Ap.length : Int)) [] : C4) fun l2 =>
  b1 (CE Ap 0 l2) fun ab =>
  b1 (CF hours 0 l) fun aa =>
  ix aa hour fun x6 =>
  ix x6 GX fun _x7 =>
  bv (x6.set (GX : Int).toNat m) fun l8 =>
  bv (aa.set (hour : Int).toNat l8) fun ad =>
  some (ab, ad)
def I6 (Ap hours : C4) (hour GX m : Int) : Option (C4 × C4 × Int) :=
  b1 (Ic Ap hours) fun n =>
  if n ≠ 0 then
  (some ([], [], n))
  else
  (b1 (FE Ap hours hour GX) fun ok =>
  if (!ok) = true then
  (some ([], [], 1))
  else
  (b1 (DX m) fun aa =>
  if (!aa) = true then
  (some ([], [], 3))
  else
  (b2 (FT Ap hours hour GX m) fun l l2 =>
  some (l, l2, 0))))
def Cl (l3 : List Int) : C4 → Int → (List Int) → (List Int) → Option ((List Int) × (List Int))
  | [], _k, aa, Cs =>
  some (aa, Cs)
  | _x :: ab, k, aa, Cs =>
  ix l3 0 fun x2 =>
  gd (C6 (1 + k)) <|
  gd (0 ≤ k ∧ k < 64) <|
  ap aa [1 + k] fun l4 =>
  ap Cs [Fa (shr x2 k) 1] fun l5 =>
  Cl l3 ab (k + 1) l4 l5
def Eu (numbers : List Int) (ab : Int) : Option Bool :=
  b3 (JL numbers) fun metal at_ GK =>
  b5 (Hj metal at_ GK 5 3) fun l l2 l3 _af _ad =>
  b2 (Cl l3 l 0 [] []) fun aa found =>
  b2 (Cv l l2) fun l6 ok =>
  if (!ok) = true then
  (some false)
  else
  (b4 (IW aa 0 [l6] [found] [5] 0 0) fun n n2 ah n3 =>
  b3 (JR aa 0 [l6] [found] [5]) fun _l7 n4 n5 =>
  b1 (BD l6 (fun ai : Int => Dm ai)) fun aj =>
  b1 (if n3 ≠ 0 then
  (some true)
  else
  (if n5 ≠ 0 then
  (some true)
  else
  (if n2 ≠ 0 then
  (some true)
  else
  (if ah ≠ aj then
  (some true)
  else
  (some (decide (n4 ≠ n))))))) fun k2 =>
  if k2 = true then
  (some false)
  else
  (gd (C6 ab) <|
  gd ((l.length : Int) ≠ 0) <|
  bv (Int.tmod ab (l.length : Int)) fun GX =>
  ix l3 0 fun x3 =>
  b2 (Jl l l2 x3) fun n6 n7 =>
  b1 (gd (0 ≤ GX ∧ GX < 64) <|
  if (Fa (shr n6 GX) 1) = 1 then
  (some 1)
  else
  (some 2)) fun mark =>
  b3 (I6 l l2 0 GX mark) fun l8 l9 n8 =>
  b2 (Cv l8 l9) fun ae ak =>
  b1 (if n7 ≠ 0 then
  (some true)
  else
  (if n8 ≠ 0 then
  (some true)
  else
  (some (!ak)))) fun k3 =>
  if k3 = true then
  (some false)
  else
  (b4 (IW aa 0 [ae] [found] [5] 0 0) fun n9 al _av ao =>
  b3 (JR aa 0 [ae] [found] [5]) fun _aw aq ar =>
  if ao = 0 then
  (if ar = 0 then
  (if al = 0 then
  (if n ≤ n9 then
  (if n4 ≤ aq then
  (b1 (HU) fun au =>
  some au)
  else
  (some false))
  else
  (some false))
  else
  (some false))
  else
  (some false))
  else
  (some false))))
end Go.Proofs.YtfmapnhfamoecaaGreat
