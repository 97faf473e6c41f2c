/- Plain functions that mirror the code, printed by a program of mine. -/
import Derived.Test.YtfmapnhfamoecabGreatZQPl
namespace Go.Proofs.YtfmapnhfamoecabGreat
open Go.PL
abbrev Fa := List (List Int)
abbrev Hk := List ((List Int) × Int × Int)
def SC : List Int := [0, 1, 2, 2, 3, 3, 3, 3, 4, 4, 4, 4, 4, 4, 4, 4, 5, 5, 5, 5, 5, 5, 5, 5, 5, 5, 5, 5, 5, 5, 5, 5, 6, 6, 6, 6, 6, 6, 6, 6, 6, 6, 6, 6, 6, 6, 6, 6, 6, 6, 6, 6, 6, 6, 6, 6, 6, 6, 6, 6, 6, 6, 6, 6, 7, 7, 7, 7, 7, 7, 7, 7, 7, 7, 7, 7, 7, 7, 7, 7, 7, 7, 7, 7, 7, 7, 7, 7, 7, 7, 7, 7, 7, 7, 7, 7, 7, 7, 7, 7, 7, 7, 7, 7, 7, 7, 7, 7, 7, 7, 7, 7, 7, 7, 7, 7, 7, 7, 7, 7, 7, 7, 7, 7, 7, 7, 7, 7, 8, 8, 8, 8, 8, 8, 8, 8, 8, 8, 8, 8, 8, 8, 8, 8, 8, 8, 8, 8, 8, 8, 8, 8, 8, 8, 8, 8, 8, 8, 8, 8, 8, 8, 8, 8, 8, 8, 8, 8, 8, 8, 8, 8, 8, 8, 8, 8, 8, 8, 8, 8, 8, 8, 8, 8, 8, 8, 8, 8, 8, 8, 8, 8, 8, 8, 8, 8, 8, 8, 8, 8, 8, 8, 8, 8, 8, 8, 8, 8, 8, 8, 8, 8, 8, 8, 8, 8, 8, 8, 8, 8, 8, 8, 8, 8, 8, 8, 8, 8, 8, 8, 8, 8, 8, 8, 8, 8, 8, 8, 8, 8, 8, 8, 8, 8, 8, 8, 8, 8, 8, 8, 8, 8, 8, 8, 8, 8]
def HW (metal : List Int) : Option ((List Int) × Int × Int) :=
  some (metal, 0, 0)
def D5 (metal : List Int) (at_ Fv : Int) : Option (Int × Int × Int) :=
  b2 (if at_ = (metal.length : Int) then
  (some (0, (Fv + 1) % 4294967296))
  else
  (some (at_, Fv))) fun ab aa =>
  bv ((30011 * aa) % 4294967296) fun n =>
  b2 (if 0 < (metal.length : Int) then
  (ix metal ab fun x =>
  bv ((n + ((263 * (x % 4294967296)) % 4294967296)) % 4294967296) fun n3 =>
  gd (C8 (ab + 1)) <|
  some (n3, ab + 1))
  else
  (some (n, ab))) fun n2 ad =>
  gd (C8 (I8 32 (N0 32 n2 (shr n2 7)) 65535)) <|
  some (I8 32 (N0 32 n2 (shr n2 7)) 65535, ad, aa)
def B7 (metal : List Int) (at_ Fv n : Int) : Option (Int × Int × Int) :=
  b3 (D5 metal at_ Fv) fun n2 ab aa =>
  gd (C8 (n + 1)) <|
  gd ((if n + 1 > 1 then n + 1 else 1) ≠ 0) <|
  some (Int.tmod n2 (if n + 1 > 1 then n + 1 else 1), ab, aa)
def BR (metal : List Int) (at_ Fv lo hi : Int) : Option (Int × Int × Int) :=
  gd (C8 (hi - lo)) <|
  b3 (B7 metal at_ Fv (hi - lo)) fun n ab aa =>
  gd (C8 (lo + n)) <|
  some (lo + n, ab, aa)
def D2 (metal : List Int) : Nat → Int → Int → (List Int) → Int → Option (Int × Int × (List Int))
  | 0, ae, ad, aa, _ab =>
  some (ae, ad, aa)
  | aj + 1, ae, ad, aa, ab =>
  b3 (B7 metal ae ad 5) fun n3 ai ah =>
  ix [0, 0, 0, 1, 1, 2] n3 fun x =>
  b2 (if x = 1 then
  (gd (C8 (ab - 1)) <|
  if (ab - 1) < 0 then
  (some (ab - 1, 0))
  else
  (some (ab - 1, x)))
  else
  (some (ab, x))) fun af p =>
  ap aa [p] fun t =>
  D2 metal aj ai ah t af
def GI (metal : List Int) (at_ Fv plots : Int) : Option (Int × (List Int) × Int × Int) :=
  b3 (BR metal at_ Fv 1 6) fun n ah ad =>
  gd ((n : Int) ≠ 0 ∧ C8 (Int.tdiv plots n)) <|
  b3 (BR metal ah ad 1 (if Int.tdiv plots n > 1 then Int.tdiv plots n else 1)) fun n2 ai ae =>
  b3 (gd (C8 (n2 * n)) <|
  gd (C8 0 ∧ C8 (n2 * n)) <|
  D2 metal (Int.toNat ((n2 * n) - 0)) ai ae [] 10) fun aj ab aa =>
  gd (C8 ((aa.length : Int) - 1)) <|
  b3 (B7 metal aj ab ((aa.length : Int) - 1)) fun n4 ak af =>
  ix aa n4 fun _x2 =>
  bv (aa.set (n4 : Int).toNat 0) fun l =>
  some (n, l, ak, af)
def Gh (metal : List Int) (at_ Fv : Int) : Option (Int × Int × Int × Int) :=
  b3 (B7 metal at_ Fv 4) fun n ad aa =>
  b3 (BR metal ad aa 1 16) fun n2 ae ab =>
  some (n, n2, ae, ab)
def FJ : Option Int :=
  some (-1)
def Bq (v : Int) : List Int → Int → Option Int
  | [], _k =>
  FJ
  | x :: aa, k =>
  if v = x then
  (some k)
  else
  (Bq v aa (k + 1))
def Dp (s_ : List Int) (v : Int) : Option Int :=
  Bq v s_ 0
def Bl (s_ : List Int) (v : Int) : Option Bool :=
  b1 (Dp s_ v) fun n =>
  some (decide (0 ≤ n))
def EM (n lo hi : Int) : Option Bool :=
  if lo ≤ n then
  (some (decide (n ≤ hi)))
  else
  (some false)
def DS (_walks Ao : Fa) (_Af _start : Int) (_Ac : Hk) (s_ : Int) : Option Bool :=
  gd (C8 ((Ao.length : Int) - 1)) <|
  b1 (EM s_ 0 ((Ao.length : Int) - 1)) fun ok =>
  some ok
def EP : Option Int :=
  some (-1)
def B8 (f : (List Int) → Option Bool) : Fa → Int → Option Int
  | [], _k =>
  EP
  | x :: aa, k =>
  b1 (f x) fun ok =>
  if ok = true then
  (some k)
  else
  (B8 f aa (k + 1))
def En (s_ : Fa) (f : (List Int) → Option Bool) : Option Int :=
  B8 f s_ 0
def DW (s_ : Fa) (f : (List Int) → Option Bool) : Option Bool :=
  b1 (En s_ f) fun n =>
  some (decide (0 ≤ n))
def EE (x : List Int) (so : (List Int) → Option Bool) : Option Bool :=
  b1 (so x) fun ok =>
  some (!ok)
def Gf (l : Fa) (so : (List Int) → Option Bool) : Option Bool :=
  b1 (DW l (fun aa : (List Int) => EE aa so)) fun ok =>
  some (!ok)
def Ez (l : List Int) (n : Int) : Option Bool :=
  some (decide ((l.length : Int) = n))
def EX (walks Ao : Fa) (Af _start : Int) (Ac : Hk) : Option Bool :=
  b1 (EM (Ao.length : Int) 1 5) fun ok =>
  if ok = true then
  (b1 (EM Af 1 5) fun aa =>
  if aa = true then
  (if (Ac.length : Int) ≤ 3 then
  (if (walks.length : Int) = (Ao.length : Int) then
  (b1 (Gf walks (fun ab : (List Int) => Ez ab (Ao.length : Int))) fun ad =>
  some ad)
  else
  (some false))
  else
  (some false))
  else
  (some false))
  else
  (some false)
def FV (k : Int) (rec2 : Int → Option Bool) : Option Bool :=
  rec2 (k + 1)
def CY (k : Int) (rec2 : Int → Option Bool) : List Int → Int → Option Bool
  | [], _k2 =>
  FV k rec2
  | x2 :: aa, k2 =>
  b1 (if k = k2 then
  (if x2 ≠ 0 then
  (some true)
  else
  (if k ≠ k2 then
  (if x2 ≠ (-1) then
  (b1 (EM x2 1 20) fun ok =>
  some (!ok))
  else
  (some false))
  else
  (some false)))
  else
  (if k ≠ k2 then
  (if x2 ≠ (-1) then
  (b1 (EM x2 1 20) fun ab =>
  some (!ab))
  else
  (some false))
  else
  (some false))) fun k3 =>
  if k3 = true then
  (some false)
  else
  (CY k rec2 aa (k2 + 1))
def F9 : Option Bool :=
  some true
def BS : Fa → Int → Option Bool
  | [], _k =>
  F9
  | x :: aa, k =>
  CY k (BS aa) x 0
def FC (walks _Ao : Fa) (_Af _start : Int) (_Ac : Hk) : Option Bool :=
  BS walks 0
def GH : Option Int :=
  some 0
def Dm (Af : Int) (l : List Int) : List Int → Int → Option Int
  | [], _k =>
  GH
  | x :: aa, k =>
  gd (C8 (Af - 1)) <|
  b1 (EM x 0 (Af - 1)) fun ok =>
  if (!ok) = true then
  (some 1)
  else
  (gd ((0 ≤ (0 : Int) ∧ (0 : Int) ≤ k) ∧ k ≤ l.length) <|
  bv (sl l 0 k) fun l2 =>
  b1 (Bl l2 x) fun ab =>
  if ab = true then
  (some 5)
  else
  (Dm Af l aa (k + 1)))
def Fq (_walks _Ao : Fa) (Af _start : Int) (_Ac : Hk) (l : List Int) : Option Int :=
  Dm Af l l 0
def FM (walks Ao : Fa) (Af start : Int) (Ac : Hk) (quarter : List Int) (words hour : Int) : Option Int :=
  if (quarter.length : Int) = 0 then
  (some 6)
  else
  (b1 (Fq walks Ao Af start Ac quarter) fun n =>
  if n ≠ 0 then
  (some n)
  else
  (b1 (b1 (EM words 1 5) fun ok =>
  if (!ok) = true then
  (some true)
  else
  (b1 (EM hour 0 200) fun aa =>
  some (!aa))) fun k =>
  if k = true then
  (some 3)
  else
  (some 0)))
def HJ (AN : Int) : Option Int :=
  if 9 < AN then
  (some 2)
  else
  (some 0)
def Eu (walks Ao : Fa) (Af start : Int) (Ac : Hk) : Hk → Int → Option Int
  | [], aa =>
  HJ aa
  | x2 :: ab, aa =>
  b1 (FM walks Ao Af start Ac x2.1 x2.2.1 x2.2.2) fun n2 =>
  if n2 ≠ 0 then
  (some n2)
  else
  (gd (C8 (aa + (x2.1.length : Int))) <|
  Eu walks Ao Af start Ac ab (aa + (x2.1.length : Int)))
def HZ (walks Ao : Fa) (Af start : Int) (Ac : Hk) : Option Int :=
  Eu walks Ao Af start Ac Ac 0
def Ex (walks Ao : Fa) (Af start : Int) (Ac : Hk) : Fa → Option Int
  | [] =>
  HZ walks Ao Af start Ac
  | x :: aa =>
  b1 (Fq walks Ao Af start Ac x) fun n =>
  if n ≠ 0 then
  (some n)
  else
  (Ex walks Ao Af start Ac aa)
def Is (walks Ao : Fa) (Af start : Int) (Ac : Hk) : Option Int :=
  b1 (EX walks Ao Af start Ac) fun ok =>
  if (!ok) = true then
  (some 2)
  else
  (b1 (DS walks Ao Af start Ac start) fun aa =>
  if (!aa) = true then
  (some 1)
  else
  (b1 (FC walks Ao Af start Ac) fun ab =>
  if (!ab) = true then
  (some 3)
  else
  (Ex walks Ao Af start Ac Ao)))
def Cp : List Int → Int → Option Int
  | [], aa =>
  some aa
  | x :: ab, aa =>
  b1 (if x ≠ (-1) then
  (if aa = (-1) then
  (some true)
  else
  (some (decide (x < aa))))
  else
  (some false)) fun k2 =>
  if k2 = true then
  (Cp ab x)
  else
  (Cp ab aa)
def Er (l : List Int) : Option Int :=
  b1 (Cp l (-1)) fun out =>
  some out
def Ca (w : List Int) (k k2 : Int) : Nat → Int → (List Int) → Option (List Int)
  | 0, _k3, aa =>
  some aa
  | ab + 1, k3, aa =>
  b1 (gd (0 ≤ k ∧ k < 5) <|
  gd (0 ≤ k3 ∧ k3 < 5) <|
  ix w (k * 5 + k3) fun x =>
  if x ≠ (-1) then
  (gd (0 ≤ k3 ∧ k3 < 5) <|
  gd (0 ≤ k2 ∧ k2 < 5) <|
  ix w (k3 * 5 + k2) fun x2 =>
  some (decide (x2 ≠ (-1))))
  else
  (some false)) fun k4 =>
  if k4 = true then
  (gd (0 ≤ k ∧ k < 5) <|
  gd (0 ≤ k2 ∧ k2 < 5) <|
  ix aa (k * 5 + k2) fun x3 =>
  gd (0 ≤ k ∧ k < 5) <|
  gd (0 ≤ k3 ∧ k3 < 5) <|
  ix w (k * 5 + k3) fun x4 =>
  gd (0 ≤ k3 ∧ k3 < 5) <|
  gd (0 ≤ k2 ∧ k2 < 5) <|
  ix w (k3 * 5 + k2) fun x5 =>
  gd (C8 (x4 + x5)) <|
  gd (0 ≤ k ∧ k < 5) <|
  b1 (Er [x3, x4 + x5]) fun n =>
  gd (0 ≤ k2 ∧ k2 < 5) <|
  bv (aa.set (k * 5 + k2 : Int).toNat n) fun l =>
  Ca w k k2 ab (k3 + 1) l)
  else
  (Ca w k k2 ab (k3 + 1) aa)
def Cw (w : List Int) (k : Int) : Nat → Int → (List Int) → Option (List Int)
  | 0, _k2, aa =>
  some aa
  | ad + 1, k2, aa =>
  b1 (gd (C8 0 ∧ C8 5) <|
  Ca w k k2 (Int.toNat (5 - 0)) 0 aa) fun ab =>
  Cw w k ad (k2 + 1) ab
def Cv (w : List Int) : Nat → Int → (List Int) → Option (List Int)
  | 0, _k, aa =>
  some aa
  | ad + 1, k, aa =>
  b1 (gd (C8 0 ∧ C8 5) <|
  Cw w k (Int.toNat (5 - 0)) 0 aa) fun ab =>
  Cv w ad (k + 1) ab
def C7 (w : List Int) : Option (List Int) :=
  b1 (gd (C8 0 ∧ C8 5) <|
  Cv w (Int.toNat (5 - 0)) 0 w) fun out =>
  some out
def Bi : List Int → (List Int) → Option (List Int)
  | [], aa =>
  some aa
  | x :: ab, aa =>
  ap aa [x] fun ad =>
  Bi ab ad
def DB (s_ seq : List Int) : Option (List Int) :=
  b1 (Bi seq s_) fun aa =>
  some aa
def EY (seq : List Int) : Option (List Int) :=
  b1 (DB [] seq) fun l =>
  some l
def Gl (x : Int) : Option Bool :=
  some (decide (x ≠ x))
def FY (x y : Int) : Option Bool :=
  b1 (Gl x) fun ok =>
  if ok = true then
  (b1 (Gl y) fun aa =>
  if (!aa) = true then
  (some true)
  else
  (some (decide (x < y))))
  else
  (some (decide (x < y)))
def A7 (a : Int) : Nat → (List Int) → Int → Option (List Int)
  | 0, _, _ => none
  | ab + 1, aa, j =>
  b1 (if a < j then
  (ix aa j fun x =>
  gd (C8 (j - 1)) <|
  ix aa (j - 1) fun x2 =>
  b1 (FY x x2) fun ok =>
  some ok)
  else
  (some false)) fun k =>
  if k = true then
  (gd (C8 (j - 1)) <|
  gd (C8 (j - 1)) <|
  ix aa (j - 1) fun x3 =>
  ix aa j fun x4 =>
  bv (aa.set (j : Int).toNat x3) fun l =>
  ix l (j - 1) fun _x5 =>
  bv (l.set (j - 1 : Int).toNat x4) fun l2 =>
  gd (C8 (j - 1)) <|
  A7 a ab l2 (j - 1))
  else
  (some aa)
def Bf (a : Int) : Nat → Int → (List Int) → Option (List Int)
  | 0, _i, data =>
  some data
  | ab + 1, i, data =>
  b1 (A7 a FU data i) fun aa =>
  Bf a ab (i + 1) aa
def BJ (s_ : List Int) (a b : Int) : Option (List Int) :=
  gd (C8 (a + 1)) <|
  gd (C8 (a + 1) ∧ C8 b) <|
  Bf a (Int.toNat (b - (a + 1))) (a + 1) s_
def II (x : Int) : Option Int :=
  b2 (if 4294967296 ≤ x then
  (some (shr x 32, 32))
  else
  (some (x, 0))) fun x2 n =>
  b2 (if 65536 ≤ x2 then
  (gd (C8 (n + 16)) <|
  some (shr x2 16, n + 16))
  else
  (some (x2, n))) fun x3 n2 =>
  b2 (if 256 ≤ x3 then
  (gd (C8 (n2 + 8)) <|
  some (shr x3 8, n2 + 8))
  else
  (some (x3, n2))) fun x4 n3 =>
  ix SC (x4 % 256) fun x5 =>
  gd (C8 x5) <|
  gd (C8 (n3 + x5)) <|
  some (n3 + x5)
def Ft (x : Int) : Option Int :=
  b1 (II x) fun n =>
  some n
def BD (s_ : List Int) (a b : Int) : Nat → Option (List Int)
  | 0 => none
  | _ab + 1 =>
  gd (C8 (b - a)) <|
  gd ((b - a) ≤ 12) <|
  b1 (BJ s_ a b) fun aa =>
  some aa
def Dh (_ab : (List Int) → Int → Int → Int → Option ((List Int))) (s_ : List Int) (a b _aa : Int) : Option (List Int) :=
  BD s_ a b FU
def Bo : Nat → (List Int) → Int → Int → Int → Option (List Int)
  | 0, _, _, _, _ => none
  | fu + 1, s_, a, b, aa =>
  Dh (Bo fu) s_ a b aa
def Dw (s_ : List Int) : Option (List Int) :=
  b1 (Ft ((s_.length : Int) % 18446744073709551616)) fun n =>
  b1 (Bo FU s_ 0 (s_.length : Int) n) fun aa =>
  some aa
def D7 (seq : List Int) : Option (List Int) :=
  b1 (EY seq) fun l =>
  b1 (Dw l) fun s_ =>
  some s_
def BF : List Int → Option (List Int)
  | [] =>
  some []
  | x :: aa =>
  yl x <|
  BF aa
def DP (s_ : List Int) : Option (List Int) :=
  BF s_
def Ci (s_ : List Int) : Option (List Int) :=
  b1 (DP s_) fun l =>
  some l
def Dq (walks : Fa) (k : Int) : Nat → Int → (List Int) → Option (List Int)
  | 0, _k2, aa =>
  some aa
  | ab + 1, k2, aa =>
  gd (0 ≤ k ∧ k < 5) <|
  gd (0 ≤ k2 ∧ k2 < 5) <|
  ix aa (k * 5 + k2) fun _x =>
  bv (aa.set (k * 5 + k2 : Int).toNat (-1)) fun ws =>
  b1 (if k < (walks.length : Int) then
  (some (decide (k2 < (walks.length : Int))))
  else
  (some false)) fun k3 =>
  if k3 = true then
  (ix walks k fun x2 =>
  ix x2 k2 fun x3 =>
  gd (0 ≤ k ∧ k < 5) <|
  gd (0 ≤ k2 ∧ k2 < 5) <|
  ix ws (k * 5 + k2) fun _x4 =>
  bv (ws.set (k * 5 + k2 : Int).toNat x3) fun ad =>
  Dq walks k ab (k2 + 1) ad)
  else
  (Dq walks k ab (k2 + 1) ws)
def Dr (walks : Fa) : Nat → Int → (List Int) → Option (List Int)
  | 0, _k, aa =>
  some aa
  | ad + 1, k, aa =>
  b1 (gd (C8 0 ∧ C8 5) <|
  Dq walks k (Int.toNat (5 - 0)) 0 aa) fun ab =>
  Dr walks ad (k + 1) ab
def DK : Nat → (List Int) → (List Int) → Option (List Int)
  | 0, _, _ => none
  | ad + 1, aa, ab =>
  gd (∀ x_ ∈ ab, C8 x_) <|
  gd (∀ x_ ∈ aa, C8 x_) <|
  if ab ≠ aa then
  (b1 (C7 ab) fun a2 =>
  DK ad ab a2)
  else
  (some aa)
def DJ (k4 : Int) (aa : List (Int × Int)) (x6 : Int) : Fa → Int → (List Int) → Option (List Int)
  | [], _k6, ab =>
  some ab
  | x7 :: ad, k6, ab =>
  b1 (Bl x7 x6) fun ok =>
  if ok = true then
  (gd (0 ≤ k6 ∧ k6 < 5) <|
  gd (0 ≤ k4 ∧ k4 < 3) <|
  ix ab (k6 * 3 + k4) fun x8 =>
  gd ((0 ≤ ((aa.length : Int) : Int) ∧ ((aa.length : Int) : Int) < 64) ∧ C8 (shl 1 (aa.length : Int))) <|
  gd (0 ≤ k6 ∧ k6 < 5) <|
  gd (0 ≤ k4 ∧ k4 < 3) <|
  bv (ab.set (k6 * 3 + k4 : Int).toNat (LR x8 (shl 1 (aa.length : Int)))) fun ae =>
  DJ k4 aa x6 ad (k6 + 1) ae)
  else
  (DJ k4 aa x6 ad (k6 + 1) ab)
def Ec (Ao : Fa) (k4 : Int) : List Int → (List (Int × Int)) → (List Int) → Option ((List (Int × Int)) × (List Int))
  | [], aa, ab =>
  some (aa, ab)
  | x6 :: ah, aa, ab =>
  b2 (b1 (DJ k4 aa x6 Ao 0 ab) fun ae =>
  ap aa [(k4, x6)] fun c =>
  some (c, ae)) fun ad af =>
  Ec Ao k4 ah ad af
def DG (Ao : Fa) : Hk → Int → (List (Int × Int)) → (List Int) → Option ((List (Int × Int)) × (List Int))
  | [], _k4, aa, ab =>
  some (aa, ab)
  | x5 :: af, k4, aa, ab =>
  b2 (b1 (Ci x5.1) fun y =>
  b1 (D7 y) fun l =>
  Ec Ao k4 l aa ab) fun ad ae =>
  DG Ao af (k4 + 1) ad ae
def CA (walks Ao : Fa) (Af start : Int) (Ac : Hk) : Option ((Option (Fa × Fa × Int × Int × Hk × (List Int) × (List (Int × Int)) × (List Int))) × Int) :=
  b1 (Is walks Ao Af start Ac) fun n =>
  if n ≠ 0 then
  (some (none, n))
  else
  (b1 (gd (C8 0 ∧ C8 5) <|
  Dr walks (Int.toNat (5 - 0)) 0 (List.replicate 25 0)) fun aa =>
  b1 (b1 (C7 aa) fun a =>
  DK FU aa a) fun ab =>
  b2 (DG Ao Ac 0 [] (List.replicate 15 0)) fun ad ae =>
  some (some (walks, Ao, Af, start, Ac, ab, ad, ae), 0))
def EB (k : Int) (rec1 : Int → Option (List ((Int × Int) × Int))) : Option (List ((Int × Int) × Int)) :=
  rec1 (k + 1)
def B0 (hit : List Int) (Bs k : Int) (rec1 : Int → Option (List ((Int × Int) × Int))) : Hk → Int → Option (List ((Int × Int) × Int))
  | [], _k2 =>
  EB k rec1
  | _x2 :: aa, k2 =>
  gd (0 ≤ k ∧ k < 5) <|
  gd (0 ≤ k2 ∧ k2 < 3) <|
  ix hit (k * 3 + k2) fun x3 =>
  if (KK Bs x3) ≠ Bs then
  (yl ((k, k2), KK Bs x3) <|
  B0 hit Bs k rec1 aa (k2 + 1))
  else
  (B0 hit Bs k rec1 aa (k2 + 1))
def Bz (Ac : Hk) (hit : List Int) (Bs : Int) : Fa → Int → Option (List ((Int × Int) × Int))
  | [], _k =>
  some []
  | _x :: aa, k =>
  B0 hit Bs k (Bz Ac hit Bs aa) Ac 0
def Fs (_walks Ao : Fa) (_Af _start : Int) (Ac : Hk) (_AG : List Int) (_AN : List (Int × Int)) (hit : List Int) (Bs : Int) : Option (List ((Int × Int) × Int)) :=
  Bz Ac hit Bs Ao 0
def E3 (walks Ao : Fa) (Af start : Int) (Ac : Hk) (AG : List Int) (AN : List (Int × Int)) (hit : List Int) (Bs : Int) : Option (List ((Int × Int) × Int)) :=
  b1 (Fs walks Ao Af start Ac AG AN hit Bs) fun l =>
  some l
def Bn : Nat → (List (Int × Int)) → Int → Int → Option (List (Int × Int))
  | 0, _, _, _ => none
  | ab + 1, aa, i, j =>
  if i < j then
  (ix aa j fun x =>
  ix aa i fun x2 =>
  bv (aa.set (i : Int).toNat (x.1, x.2)) fun l =>
  ix l j fun _x3 =>
  bv (l.set (j : Int).toNat (x2.1, x2.2)) fun l2 =>
  gd (C8 (i + 1)) <|
  gd (C8 (j - 1)) <|
  Bn ab l2 (i + 1) (j - 1))
  else
  (some aa)
def Cg (s_ : List (Int × Int)) : Option (List (Int × Int)) :=
  gd (C8 ((s_.length : Int) - 1)) <|
  Bn FU s_ 0 ((s_.length : Int) - 1)
def BW (Ac : Hk) (AG : List Int) (ok : (Int × Int) → Option Bool) (aa : Int) (ad : List ((Int × Int) × (Int × Int × Int × Int × Int))) (k : Int) : List ((Int × Int) × Int) → (List ((Int × Int) × (Int × Int × Int × Int × Int))) → Option (List ((Int × Int) × (Int × Int × Int × Int × Int)))
  | [], ab =>
  some ab
  | x2 :: ae, ab =>
  gd (0 ≤ k ∧ k < 5) <|
  gd (0 ≤ x2.1.1 ∧ x2.1.1 < 5) <|
  ix AG (k * 5 + x2.1.1) fun x3 =>
  if x3 = (-1) then
  (BW Ac AG ok aa ad k ae ab)
  else
  (gd (C8 ((((AZ ad (k, aa)).getD (0, 0, 0, 0, 0)).1) + x3)) <|
  ix Ac x2.1.2 fun x4 =>
  gd (C8 (((((AZ ad (k, aa)).getD (0, 0, 0, 0, 0)).1) + x3) + x4.2.1)) <|
  bv (((((AZ ad (k, aa)).getD (0, 0, 0, 0, 0)).1) + x3) + x4.2.1) fun end_ =>
  b1 (b1 (ok (x2.1.2, end_)) fun ah =>
  if ah = true then
  (if (!((AZ ab (x2.1.1, x2.2)).isSome)) = true then
  (some true)
  else
  (some (decide (end_ < (((AZ ab (x2.1.1, x2.2)).getD (0, 0, 0, 0, 0)).1)))))
  else
  (some false)) fun k2 =>
  if k2 = true then
  (bv (I9 ab (x2.1.1, x2.2) (end_, x2.1.1, x2.1.2, k, aa)) fun af =>
  BW Ac AG ok aa ad k ae af)
  else
  (BW Ac AG ok aa ad k ae ab))
def CW (walks Ao : Fa) (Af start : Int) (Ac : Hk) (AG : List Int) (AN : List (Int × Int)) (hit : List Int) (ok : (Int × Int) → Option Bool) (aa : Int) : Fa → Int → (List ((Int × Int) × (Int × Int × Int × Int × Int))) → Option (List ((Int × Int) × (Int × Int × Int × Int × Int)))
  | [], _k, ab =>
  some ab
  | _x :: ae, k, ab =>
  b1 (if (!((AZ ab (k, aa)).isSome)) = true then
  (some ab)
  else
  (b1 (E3 walks Ao Af start Ac AG AN hit aa) fun y =>
  BW Ac AG ok aa ab k y ab)) fun ad =>
  CW walks Ao Af start Ac AG AN hit ok aa ae (k + 1) ad
def CU (walks Ao : Fa) (Af start : Int) (Ac : Hk) (AG : List Int) (AN : List (Int × Int)) (hit : List Int) (Bs : Int) (ok : (Int × Int) → Option Bool) : Nat → (List ((Int × Int) × (Int × Int × Int × Int × Int))) → Int → Option (List ((Int × Int) × (Int × Int × Int × Int × Int)))
  | 0, _, _ => none
  | ae + 1, ab, aa =>
  if 0 < aa then
  (b1 (if (KK aa Bs) ≠ 0 then
  (some ab)
  else
  (CW walks Ao Af start Ac AG AN hit ok aa Ao 0 ab)) fun ad =>
  gd (C8 (aa - 1)) <|
  CU walks Ao Af start Ac AG AN hit Bs ok ae ad (aa - 1))
  else
  (some ab)
def Cd (ad : List ((Int × Int) × (Int × Int × Int × Int × Int))) : Fa → Int → Int → Int → Option (Int × Int)
  | [], _k3, aa, ab =>
  some (aa, ab)
  | _x5 :: af, k3, aa, ab =>
  b1 (if ((AZ ad (k3, 0)).isSome) = true then
  (if ab = (-1) then
  (some true)
  else
  (some (decide ((((AZ ad (k3, 0)).getD (0, 0, 0, 0, 0)).1) < ab))))
  else
  (some false)) fun k4 =>
  if k4 = true then
  (bv (((AZ ad (k3, 0)).getD (0, 0, 0, 0, 0)).1) fun ae =>
  Cd ad af (k3 + 1) k3 ae)
  else
  (Cd ad af (k3 + 1) aa ab)
def Cx (Bs : Int) (ad : List ((Int × Int) × (Int × Int × Int × Int × Int))) : Nat → Int → Int → (List (Int × Int)) → Option (List (Int × Int))
  | 0, _, _, _ => none
  | ah + 1, aa, ab, ae =>
  if ab ≠ Bs then
  (ap ae [(((AZ ad (aa, ab)).getD (0, 0, 0, 0, 0)).2.1, ((AZ ad (aa, ab)).getD (0, 0, 0, 0, 0)).2.2.1)] fun af =>
  Cx Bs ad ah (((AZ ad (aa, ab)).getD (0, 0, 0, 0, 0)).2.2.2.1) (((AZ ad (aa, ab)).getD (0, 0, 0, 0, 0)).2.2.2.2) af)
  else
  (some ae)
def CC (walks Ao : Fa) (Af start : Int) (Ac : Hk) (AG : List Int) (AN : List (Int × Int)) (hit : List Int) (Bs : Int) (ok : (Int × Int) → Option Bool) : Option ((List (Int × Int)) × Int × Bool) :=
  bv (I9 [] (start, Bs) (0, 0, 0, 0, 0)) fun met =>
  b1 (CU walks Ao Af start Ac AG AN hit Bs ok FU met Bs) fun ab =>
  b2 (Cd ab Ao 0 (-1) (-1)) fun aa minute =>
  if minute = (-1) then
  (some ([], 0, false))
  else
  (b1 (Cx Bs ab FU aa 0 []) fun out =>
  b1 (Cg out) fun s_ =>
  some (s_, minute, true))
def EJ (_walks _Ao : Fa) (_Af _start : Int) (_Ac : Hk) (_AG : List Int) (AN : List (Int × Int)) (_hit : List Int) : Option Int :=
  gd ((0 ≤ ((AN.length : Int) : Int) ∧ ((AN.length : Int) : Int) < 64) ∧ C8 (shl 1 (AN.length : Int))) <|
  gd (C8 ((shl 1 (AN.length : Int)) - 1)) <|
  some ((shl 1 (AN.length : Int)) - 1)
def DR (Bx minute last : Int) (_walks _Ao : Fa) (_Af _start : Int) (Ac : Hk) (_AG : List Int) (_AN : List (Int × Int)) (_hit : List Int) : Option Bool :=
  ix Ac Bx fun x =>
  some (decide (minute ≤ (if x.2.2 < last then x.2.2 else last)))
def GN (walks Ao : Fa) (Af start : Int) (Ac : Hk) (AG : List Int) (AN : List (Int × Int)) (hit : List Int) (last : Int) : Option ((Int × Int) → Option Bool) :=
  some (fun aa : Int × Int => DR aa.1 aa.2 last walks Ao Af start Ac AG AN hit)
def ED (walks Ao : Fa) (Af start : Int) (Ac : Hk) (AG : List Int) (AN : List (Int × Int)) (hit : List Int) : Option ((Int × Int) → Option Bool) :=
  b1 (GN walks Ao Af start Ac AG AN hit 200) fun y =>
  some y
def Hw (walks Ao : Fa) (Af start : Int) (Ac : Hk) : Option ((List (Int × Int)) × Int × Int) :=
  b2 (CA walks Ao Af start Ac) fun d n =>
  if n ≠ 0 then
  (some ([], 0, n))
  else
  (b8 d fun AG ad ab ae aa af AN hit =>
  b1 (EJ AG ad ab ae aa af AN hit) fun n2 =>
  b1 (ED AG ad ab ae aa af AN hit) fun y =>
  b3 (CC AG ad ab ae aa af AN hit n2 y) fun l n3 ok =>
  if (!ok) = true then
  (some ([], 0, 6))
  else
  (some (l, n3, 0)))
def DH : Option (Fa × Fa × Int × Int × Hk) :=
  some ([[0, 2, -1], [2, 0, 2], [-1, 2, 0]], [[0], [1], [1, 2]], 3, 0, [([0, 2], 3, 12), ([1], 1, 20)])
def Gs (_walks _Ao : Fa) (_Af _start : Int) (Ac : Hk) (n : Int) : Option Bool :=
  gd (C8 ((Ac.length : Int) - 1)) <|
  b1 (EM n 0 ((Ac.length : Int) - 1)) fun ok =>
  some ok
def JJ (d : Option (Fa × Fa × Int × Int × Hk × (List Int) × (List (Int × Int)) × (List Int))) (out : List Int) : Option ((Option (Fa × Fa × Int × Int × Hk × (List Int) × (List (Int × Int)) × (List Int))) × (List Int) × Int) :=
  some (d, out, 0)
def He (walks Ao : Fa) (Af start : Int) (Ac : Hk) (d : Option (Fa × Fa × Int × Int × Hk × (List Int) × (List (Int × Int)) × (List Int))) : List (Int × Int) → Int → Int → (List Int) → Option ((Option (Fa × Fa × Int × Int × Hk × (List Int) × (List (Int × Int)) × (List Int))) × (List Int) × Int)
  | [], _at_, _minute, aa =>
  JJ d aa
  | x :: aj, at_, minute, aa =>
  b1 (b1 (DS walks Ao Af start Ac x.1) fun ok =>
  if (!ok) = true then
  (some true)
  else
  (b1 (Gs walks Ao Af start Ac x.2) fun ak =>
  some (!ak))) fun k2 =>
  if k2 = true then
  (some (none, [], 1))
  else
  (b8 d fun _AG _af _ae _ah _ad ab _AN _hit =>
  gd (0 ≤ at_ ∧ at_ < 5) <|
  gd (0 ≤ x.1 ∧ x.1 < 5) <|
  ix ab (at_ * 5 + x.1) fun x2 =>
  if x2 = (-1) then
  (some (none, [], 6))
  else
  (gd (C8 (minute + x2)) <|
  ix Ac x.2 fun x3 =>
  gd (C8 ((minute + x2) + x3.2.1)) <|
  ap aa [(minute + x2) + x3.2.1] fun ai =>
  He walks Ao Af start Ac d aj x.1 ((minute + x2) + x3.2.1) ai))
def Mp (walks Ao : Fa) (Af start : Int) (Ac : Hk) (round : List (Int × Int)) : Option ((Option (Fa × Fa × Int × Int × Hk × (List Int) × (List (Int × Int)) × (List Int))) × (List Int) × Int) :=
  b2 (CA walks Ao Af start Ac) fun d n =>
  if n ≠ 0 then
  (some (none, [], n))
  else
  (if 20 < (round.length : Int) then
  (some (none, [], 2))
  else
  (He walks Ao Af start Ac d round start 0 []))
def IC (x y : Int) : Option (Int × Int) :=
  bv (((I8 64 x 4294967295) * (I8 64 y 4294967295)) % 18446744073709551616) fun w0 =>
  bv (((((shr x 32) * (I8 64 y 4294967295)) % 18446744073709551616) + (shr w0 32)) % 18446744073709551616) fun t =>
  bv (((I8 64 t 4294967295) + (((I8 64 x 4294967295) * (shr y 32)) % 18446744073709551616)) % 18446744073709551616) fun w1 =>
  bv (((((((shr x 32) * (shr y 32)) % 18446744073709551616) + (shr t 32)) % 18446744073709551616) + (shr w1 32)) % 18446744073709551616) fun hi =>
  bv ((x * y) % 18446744073709551616) fun lo =>
  some (hi, lo)
def JH (x y : Int) : Option (Int × Int) :=
  b2 (IC x y) fun n n2 =>
  some (n, n2)
def DD : Nat → (List Int) → Int → Option (List Int)
  | 0, _, _ => none
  | ab + 1, aa, n4 =>
  if n4 < (aa.length : Int) then
  (gd (0 ≤ n4 ∧ n4 ≤ (aa.length : Int)) <|
  gd (0 ≤ n4 ∧ n4 ≤ (aa.length : Int)) <|
  gd (0 ≤ n4 ∧ n4 < (aa.length : Int)) <|
  bv (aa.take (Int.toNat n4) ++ (aa.take (Nat.min (Int.toNat n4) (aa.length - (Int.toNat n4))) ++ aa.drop ((Int.toNat n4) + (Nat.min (Int.toNat n4) (aa.length - (Int.toNat n4)))))) fun l2 =>
  gd (C8 (n4 + (((Nat.min (Int.toNat n4) (aa.length - (Int.toNat n4))) : Nat) : Int))) <|
  bv (n4 + (((Nat.min (Int.toNat n4) (aa.length - (Int.toNat n4))) : Nat) : Int)) fun n5 =>
  DD ab l2 n5)
  else
  (some aa)
def Eh (x : List Int) (count : Int) : Option (List Int) :=
  gd (¬ (count < 0)) <|
  b2 (JH ((x.length : Int) % 18446744073709551616) (count % 18446744073709551616)) fun n n2 =>
  b1 (if 0 < n then
  (some true)
  else
  (some (decide (9223372036854775807 < n2)))) fun k =>
  gd (k = false) <|
  gd (C8 n2) <|
  gd (0 ≤ n2 ∧ n2 ≤ 1048576) <|
  bv (List.replicate (n2 : Int).toNat 0 : List Int) fun l =>
  bv (Y2 l x) fun ab =>
  bv (((Nat.min x.length l.length : Nat) : Int)) fun n3 =>
  b1 (DD FU ab n3) fun aa =>
  some aa
def Et (Af : Int) : Hk → Fa → Option Fa
  | [], aa =>
  some aa
  | _x :: ad, aa =>
  b1 (Eh [-1] Af) fun l2 =>
  ap aa [l2] fun ab =>
  Et Af ad ab
def E8 (l : List Int) (k2 : Int) (x2 : Int × Int) : List Int → Fa → Option Fa
  | [], aa =>
  some aa
  | x4 :: ad, aa =>
  ix aa x2.2 fun x5 =>
  ix x5 x4 fun x6 =>
  ix l k2 fun x7 =>
  b1 (Er [x6, x7]) fun n2 =>
  bv (x5.set (x4 : Int).toNat n2) fun l3 =>
  bv (aa.set (x2.2 : Int).toNat l3) fun ab =>
  E8 l k2 x2 ad ab
def Ff (Ao : Fa) (l : List Int) : List (Int × Int) → Int → Fa → Option Fa
  | [], _k2, aa =>
  some aa
  | x2 :: ad, k2, aa =>
  b1 (ix Ao x2.1 fun x3 =>
  E8 l k2 x2 x3 aa) fun ab =>
  Ff Ao l ad (k2 + 1) ab
def Lf (walks Ao : Fa) (Af start : Int) (Ac : Hk) (round : List (Int × Int)) : Option (Fa × Int) :=
  b3 (Mp walks Ao Af start Ac round) fun _d l n =>
  if n ≠ 0 then
  (some ([], n))
  else
  (b1 (Et Af Ac []) fun out =>
  b1 (Ff Ao l round 0 out) fun aa =>
  some (aa, 0))
def Fh (Ac : Hk) (l : Fa) : List (Int × Int) → (List (Int × Int)) → Option (List (Int × Int))
  | [], aa =>
  some aa
  | x :: ad, aa =>
  ix l x.1 fun x2 =>
  ix x2 x.2 fun x3 =>
  ix Ac x.1 fun x4 =>
  b1 (EM x3 0 x4.2.2) fun ok =>
  if (!ok) = true then
  (ap aa [(x.1, x.2)] fun ab =>
  Fh Ac l ad ab)
  else
  (Fh Ac l ad aa)
def KD (walks Ao : Fa) (Af start : Int) (Ac : Hk) (round : List (Int × Int)) : Option ((List (Int × Int)) × Int) :=
  b2 (Lf walks Ao Af start Ac round) fun l n =>
  if n ≠ 0 then
  (some ([], n))
  else
  (b2 (CA walks Ao Af start Ac) fun d _n2 =>
  b1 (b8 d fun _AG _ad _ab _ae _aa _af AN _hit =>
  Fh Ac l AN []) fun out =>
  some (out, 0))
def Mj (walks Ao : Fa) (Af start : Int) (Ac : Hk) (from_ to : Int) : Option (Int × Int) :=
  b2 (CA walks Ao Af start Ac) fun d n =>
  if n ≠ 0 then
  (some (0, n))
  else
  (b1 (b1 (DS walks Ao Af start Ac from_) fun ok =>
  if (!ok) = true then
  (some true)
  else
  (b1 (DS walks Ao Af start Ac to) fun ah =>
  some (!ah))) fun k =>
  if k = true then
  (some (0, 1))
  else
  (b8 d fun _AG _ae _ad _af _ab aa _AN _hit =>
  gd (0 ≤ from_ ∧ from_ < 5) <|
  gd (0 ≤ to ∧ to < 5) <|
  ix aa (from_ * 5 + to) fun x =>
  if x = (-1) then
  (some (0, 6))
  else
  (gd (0 ≤ from_ ∧ from_ < 5) <|
  gd (0 ≤ to ∧ to < 5) <|
  some (x, 0))))
def B2 (Bs : Int) : List (Int × Int) → Int → (List (Int × Int)) → Option (List (Int × Int))
  | [], _k, aa =>
  some aa
  | x :: ad, k, aa =>
  gd (0 ≤ k ∧ k < 64) <|
  if (PG (shr Bs k) 1) = 1 then
  (ap aa [(x.1, x.2)] fun ab =>
  B2 Bs ad (k + 1) ab)
  else
  (B2 Bs ad (k + 1) aa)
def Fb (_walks _Ao : Fa) (_Af _start : Int) (_Ac : Hk) (_AG : List Int) (AN : List (Int × Int)) (_hit : List Int) (Bs : Int) : Option (List (Int × Int)) :=
  b1 (B2 Bs AN 0 []) fun out =>
  some out
def EW (aa : Int) : Option (Bool × Int) :=
  some (false, aa)
def Di (Bs many : Int) (walks Ao : Fa) (Af start : Int) (Ac : Hk) (AG : List Int) (AN : List (Int × Int)) (hit : List Int) (ok : (Int × Int) → Option Bool) (ad : Int → Int → Int → Fa → Fa → Int → Int → Hk → (List Int) → (List (Int × Int)) → (List Int) → ((Int × Int) → Option Bool) → Int → Option (Bool × Int)) : Nat → Int → Int → Option (Bool × Int)
  | 0, _i, aa =>
  EW aa
  | ae + 1, i, aa =>
  gd ((0 ≤ (i : Int) ∧ (i : Int) < 64) ∧ C8 (shl 1 i)) <|
  gd (C8 (many - 1)) <|
  b2 (ad (LR Bs (shl 1 i)) (i + 1) (many - 1) walks Ao Af start Ac AG AN hit ok aa) fun af ab =>
  if af = true then
  (some (true, ab))
  else
  (Di Bs many walks Ao Af start Ac AG AN hit ok ad ae (i + 1) ab)
def FL (aa : Int → Int → Int → Fa → Fa → Int → Int → Hk → (List Int) → (List (Int × Int)) → (List Int) → ((Int × Int) → Option Bool) → Int → Option (Bool × Int)) (Bs from_ many : Int) (walks Ao : Fa) (Af start : Int) (Ac : Hk) (AG : List Int) (AN : List (Int × Int)) (hit : List Int) (ok : (Int × Int) → Option Bool) (found : Int) : Option (Bool × Int) :=
  if many = 0 then
  (b3 (CC walks Ao Af start Ac AG AN hit Bs ok) fun _l _n ab =>
  if (!ab) = true then
  (some (!ab, Bs))
  else
  (some (!ab, found)))
  else
  (gd (C8 from_ ∧ C8 (AN.length : Int)) <|
  Di Bs many walks Ao Af start Ac AG AN hit ok aa (Int.toNat ((AN.length : Int) - from_)) from_ found)
def D4 : Nat → Int → Int → Int → Fa → Fa → Int → Int → Hk → (List Int) → (List (Int × Int)) → (List Int) → ((Int × Int) → Option Bool) → Int → Option (Bool × Int)
  | 0, _, _, _, _, _, _, _, _, _, _, _, _, _ => none
  | fu + 1, Bs, from_, many, walks, Ao, Af, start, Ac, AG, AN, hit, ok, found =>
  FL (D4 fu) Bs from_ many walks Ao Af start Ac AG AN hit ok found
def DT (walks Ao : Fa) (Af start : Int) (Ac : Hk) (AG : List Int) (AN : List (Int × Int)) (hit : List Int) (ok : (Int × Int) → Option Bool) : Nat → Int → Int → Option Int
  | 0, _k, aa =>
  some aa
  | ad + 1, k, aa =>
  b2 (D4 FU 0 0 k walks Ao Af start Ac AG AN hit ok aa) fun ae ab =>
  if ae = true then
  (some ab)
  else
  (DT walks Ao Af start Ac AG AN hit ok ad (k + 1) ab)
def Gz (walks Ao : Fa) (Af start : Int) (Ac : Hk) (AG : List Int) (AN : List (Int × Int)) (hit : List Int) (ok : (Int × Int) → Option Bool) : Option Int :=
  b1 (gd (C8 ((AN.length : Int) + 1)) <|
  gd (C8 0 ∧ C8 ((AN.length : Int) + 1)) <|
  DT walks Ao Af start Ac AG AN hit ok (Int.toNat (((AN.length : Int) + 1) - 0)) 0 0) fun found =>
  some found
def Ki (walks Ao : Fa) (Af start : Int) (Ac : Hk) (minute : Int) : Option ((List (Int × Int)) × Int) :=
  b2 (CA walks Ao Af start Ac) fun d n =>
  if n ≠ 0 then
  (some ([], n))
  else
  (b1 (EM minute 0 200) fun ok =>
  if (!ok) = true then
  (some ([], 3))
  else
  (b8 d fun AG ad ab ae aa af AN hit =>
  b1 (GN AG ad ab ae aa af AN hit minute) fun y =>
  b1 (EJ AG ad ab ae aa af AN hit) fun n2 =>
  b3 (CC AG ad ab ae aa af AN hit n2 y) fun _l _n3 ah =>
  if ah = true then
  (some ([], 6))
  else
  (b1 (Gz AG ad ab ae aa af AN hit y) fun n4 =>
  b1 (Fb AG ad ab ae aa af AN hit n4) fun l2 =>
  some (l2, 0))))
def Du : Option Bool :=
  some true
def B1 (s2 : List (Int × Int)) : List (Int × Int) → Int → Option Bool
  | [], _k =>
  Du
  | x :: aa, k =>
  ix s2 k fun x2 =>
  if ¬ (x.1 = x2.1 ∧ x.2 = x2.2) then
  (some false)
  else
  (B1 s2 aa (k + 1))
def DN (s1 s2 : List (Int × Int)) : Option Bool :=
  if (s1.length : Int) ≠ (s2.length : Int) then
  (some false)
  else
  (B1 s2 s1 0)
def HU (a b : List (Int × Int)) : Option Bool :=
  b1 (DN a b) fun ok =>
  some ok
def Hl (n minute x x2 : Int) (_walks _Ao : Fa) (_Af _start : Int) (Ac : Hk) (_AG : List Int) (_AN : List (Int × Int)) (_hit : List Int) : Option Bool :=
  if n = x then
  (if minute ≤ x2 then
  (some true)
  else
  (if n ≠ x then
  (ix Ac n fun x3 =>
  some (decide (minute ≤ x3.2.2)))
  else
  (some false)))
  else
  (if n ≠ x then
  (ix Ac n fun x4 =>
  some (decide (minute ≤ x4.2.2)))
  else
  (some false))
def Ir (hour : Int) (walks Ao : Fa) (Af start : Int) (Ac : Hk) (AG : List Int) (AN : List (Int × Int)) (hit : List Int) (Bx : Int) : Option Bool :=
  b1 (EJ walks Ao Af start Ac AG AN hit) fun n =>
  b3 (CC walks Ao Af start Ac AG AN hit n (fun aa : Int × Int => Hl aa.1 aa.2 Bx hour walks Ao Af start Ac AG AN hit)) fun _l _n2 ok =>
  some ok
def FI (Bx : Int) (AG ad : Fa) (ab ae : Int) (aa : Hk) (af : List Int) (AN : List (Int × Int)) (hit : List Int) : Nat → Int → Int → Option Int
  | 0, _, _ => none
  | ai + 1, ah, hi =>
  if ah < hi then
  (gd (C8 (ah + hi)) <|
  gd ((2 : Int) ≠ 0 ∧ C8 (Int.tdiv (ah + hi) 2)) <|
  b1 (Ir (Int.tdiv (ah + hi) 2) AG ad ab ae aa af AN hit Bx) fun aj =>
  if aj = true then
  (FI Bx AG ad ab ae aa af AN hit ai ah (Int.tdiv (ah + hi) 2))
  else
  (gd (C8 ((Int.tdiv (ah + hi) 2) + 1)) <|
  FI Bx AG ad ab ae aa af AN hit ai ((Int.tdiv (ah + hi) 2) + 1) hi))
  else
  (some ah)
def K7 (walks Ao : Fa) (Af start : Int) (Ac : Hk) (Bx : Int) : Option (Int × Int) :=
  b2 (CA walks Ao Af start Ac) fun d n =>
  if n ≠ 0 then
  (some (0, n))
  else
  (b1 (Gs walks Ao Af start Ac Bx) fun ok =>
  if (!ok) = true then
  (some (0, 1))
  else
  (b8 d fun AG ad ab ae aa af AN hit =>
  b1 (Ir 200 AG ad ab ae aa af AN hit Bx) fun ah =>
  if (!ah) = true then
  (some (0, 6))
  else
  (b1 (FI Bx AG ad ab ae aa af AN hit FU 0 200) fun lo =>
  some (lo, 0))))
def Ct (start : Int) (Ac : Hk) (AG : List Int) (Bx Co : Int) : Fa → Int → Int → Option Int
  | [], _k, aa =>
  some aa
  | x :: ab, k, aa =>
  gd (0 ≤ start ∧ start < 5) <|
  gd (0 ≤ k ∧ k < 5) <|
  ix AG (start * 5 + k) fun x2 =>
  b1 (if x2 ≠ (-1) then
  (b1 (Bl x Co) fun ok =>
  some ok)
  else
  (some false)) fun k2 =>
  if k2 = true then
  (ix Ac Bx fun x3 =>
  gd (C8 (x2 + x3.2.1)) <|
  b1 (Er [aa, x2 + x3.2.1]) fun n =>
  Ct start Ac AG Bx Co ab (k + 1) n)
  else
  (Ct start Ac AG Bx Co ab (k + 1) aa)
def D1 (_walks Ao : Fa) (_Af start : Int) (Ac : Hk) (AG : List Int) (_AN : List (Int × Int)) (_hit : List Int) (Bx Co : Int) : Option Int :=
  b1 (Ct start Ac AG Bx Co Ao 0 (-1)) fun out =>
  some out
def C3 : Option Int :=
  some (-1)
def BI (f : (Int × Int) → Option Bool) : List (Int × Int) → Int → Option Int
  | [], _k =>
  C3
  | x :: aa, k =>
  b1 (f (x.1, x.2)) fun ok =>
  if ok = true then
  (some k)
  else
  (BI f aa (k + 1))
def Dk (s_ : List (Int × Int)) (f : (Int × Int) → Option Bool) : Option Int :=
  BI f s_ 0
def Fx (Bx Co aa ab : Int) : Option Bool :=
  some (decide (Bx = aa ∧ Co = ab))
def HS (_walks _Ao : Fa) (_Af _start : Int) (_Ac : Hk) (_AG : List Int) (AN : List (Int × Int)) (_hit : List Int) (Bx Co : Int) : Option Int :=
  b1 (Dk AN (fun aa : (Int × Int) => Fx aa.1 aa.2 Bx Co)) fun n =>
  some n
def JG (walks Ao : Fa) (Af start : Int) (Ac : Hk) (Bx Co : Int) : Option (Int × Int) :=
  b2 (CA walks Ao Af start Ac) fun d n =>
  if n ≠ 0 then
  (some (0, n))
  else
  (b8 d fun AG ad ab ae aa af AN hit =>
  b1 (HS AG ad ab ae aa af AN hit Bx Co) fun n2 =>
  if n2 < 0 then
  (some (0, 1))
  else
  (b1 (D1 AG ad ab ae aa af AN hit Bx Co) fun n3 =>
  if n3 = (-1) then
  (some (0, 6))
  else
  (some (n3, 0))))
def EF (aa : List Int) : List (Int × Int) → Int → Int → Option Int
  | [], _k, ab =>
  some ab
  | x :: ad, k, ab =>
  b1 (Bl aa x.1) fun ok =>
  if ok = true then
  (gd ((0 ≤ (k : Int) ∧ (k : Int) < 64) ∧ C8 (shl 1 k)) <|
  EF aa ad (k + 1) (LR ab (shl 1 k)))
  else
  (EF aa ad (k + 1) ab)
def HO (_walks _Ao : Fa) (_Af _start : Int) (_Ac : Hk) (_AG : List Int) (AN : List (Int × Int)) (_hit aa : List Int) : Option Int :=
  b1 (EF aa AN 0 0) fun Bs =>
  some Bs
def GP (k : Int) : Nat → Int → (List Int) → (List Int) → (List Int) → Option ((List Int) × (List Int) × (List Int))
  | 0, _k2, aa, ab, ad =>
  some (aa, ab, ad)
  | af + 1, k2, aa, ab, ad =>
  gd (C8 ((aa.length : Int) - 1)) <|
  gd (C8 (((aa.length : Int) - 1) - k2)) <|
  gd (0 ≤ (((aa.length : Int) - 1) - k2) ∧ (((aa.length : Int) - 1) - k2) < 64) <|
  ix aa k2 fun _x =>
  bv (aa.set (k2 : Int).toNat (PG (shr k (((aa.length : Int) - 1) - k2)) 1)) fun ae =>
  ix ae k2 fun x2 =>
  if x2 = 0 then
  (ap ab [k2] fun l2 =>
  GP k af (k2 + 1) ae l2 ad)
  else
  (gd (x2 = 1) <|
  ap ad [k2] fun l3 =>
  gd (x2 = 1) <|
  GP k af (k2 + 1) ae ab l3)
def HN (Ac : Hk) (d : Option (Fa × Fa × Int × Int × Hk × (List Int) × (List (Int × Int)) × (List Int))) : Nat → Int → (List Int) → Int → Option ((List Int) × Int)
  | 0, _k, ai, ah =>
  some (ai, ah)
  | ao + 1, k, ai, ah =>
  b2 (gd (0 ≤ (Ac.length : Int) ∧ (Ac.length : Int) ≤ 1048576) <|
  bv (List.replicate ((Ac.length : Int) : Int).toNat 0 : List Int) fun l =>
  b3 (gd (C8 0 ∧ C8 (l.length : Int)) <|
  GP k (Int.toNat ((l.length : Int) - 0)) 0 l [] []) fun aq ar ak =>
  b8 d fun AG ad ab ae aa af AN hit =>
  b1 (HO AG ad ab ae aa af AN hit ar) fun n2 =>
  b1 (ED AG ad ab ae aa af AN hit) fun y =>
  b3 (CC AG ad ab ae aa af AN hit n2 y) fun _l4 n3 ok =>
  b1 (HO AG ad ab ae aa af AN hit ak) fun n4 =>
  b1 (ED AG ad ab ae aa af AN hit) fun y2 =>
  b3 (CC AG ad ab ae aa af AN hit n4 y2) fun _l5 n5 au =>
  b1 (if ok = true then
  (if au = true then
  (if ah = (-1) then
  (some true)
  else
  (some (decide ((if n5 > n3 then n5 else n3) < ah))))
  else
  (some false))
  else
  (some false)) fun k3 =>
  if k3 = true then
  (some (aq, if n5 > n3 then n5 else n3))
  else
  (some (ai, ah))) fun al aj =>
  HN Ac d ao (k + 1) al aj
def Nu (walks Ao : Fa) (Af start : Int) (Ac : Hk) : Option ((List Int) × Int × Int) :=
  b2 (CA walks Ao Af start Ac) fun d n =>
  if n ≠ 0 then
  (some ([], 0, n))
  else
  (b2 (gd ((0 ≤ ((Ac.length : Int) : Int) ∧ ((Ac.length : Int) : Int) < 64) ∧ C8 (shl 1 (Ac.length : Int))) <|
  gd (C8 0 ∧ C8 (shl 1 (Ac.length : Int))) <|
  HN Ac d (Int.toNat ((shl 1 (Ac.length : Int)) - 0)) 0 [] (-1)) fun out Q6 =>
  if Q6 = (-1) then
  (some ([], 0, 6))
  else
  (some (out, Q6, 0)))
def FD : Option Bool :=
  some true
def DU (s2 : List Int) : List Int → Int → Option Bool
  | [], _k =>
  FD
  | x :: aa, k =>
  ix s2 k fun x2 =>
  if x ≠ x2 then
  (some false)
  else
  (DU s2 aa (k + 1))
def GL (s1 s2 : List Int) : Option Bool :=
  if (s1.length : Int) ≠ (s2.length : Int) then
  (some false)
  else
  (DU s2 s1 0)
def Ip (a b : List Int) : Option Bool :=
  b1 (GL a b) fun ok =>
  some ok
def Fi : Option Bool :=
  b5 (DH) fun l l2 n n2 l3 =>
  b3 (Hw l l2 n n2 l3) fun l4 n3 n4 =>
  b5 (DH) fun l5 l6 n5 n6 l7 =>
  b2 (KD l5 l6 n5 n6 l7 l4) fun l8 n7 =>
  b5 (DH) fun l9 aa n8 n9 ab =>
  b2 (Mj l9 aa n8 n9 ab 0 2) fun ad ae =>
  b5 (DH) fun af ah ai aj ak =>
  b2 (Ki af ah ai aj ak 10) fun al ao =>
  b1 (if n4 ≠ 0 then
  (some true)
  else
  (if n7 ≠ 0 then
  (some true)
  else
  (if ae ≠ 0 then
  (some true)
  else
  (if ao ≠ 0 then
  (some true)
  else
  (if n3 ≠ 11 then
  (some true)
  else
  (if 0 < (l8.length : Int) then
  (some true)
  else
  (if ad ≠ 4 then
  (some true)
  else
  (b1 (HU al [(0, 0), (0, 2), (1, 1)]) fun ok =>
  some (!ok))))))))) fun k =>
  if k = true then
  (some false)
  else
  (b5 (DH) fun aq ar au av aw =>
  b2 (K7 aq ar au av aw 1) fun ax ay =>
  b5 (DH) fun az ba bb bc bg =>
  b2 (JG az ba bb bc bg 0 2) fun bh bj =>
  b5 (DH) fun bk bl bm bn bo =>
  b3 (Nu bk bl bm bn bo) fun bp bq br =>
  if ay = 0 then
  (if bj = 0 then
  (if br = 0 then
  (if ax = 6 then
  (if bh = 7 then
  (if bq = 10 then
  (b1 (Ip bp [0, 1]) fun bu =>
  some bu)
  else
  (some false))
  else
  (some false))
  else
  (some false))
  else
  (some false))
  else
  (some false))
  else
  (some false))
def Gu (n lo hi : Int) : Option Bool :=
  if lo ≤ n then
  (some (decide (n ≤ hi)))
  else
  (some false)
def Dd : Option Int :=
  some (-1)
def Bk (f : Int → Option Bool) : List Int → Int → Option Int
  | [], _k =>
  Dd
  | x :: aa, k =>
  b1 (f x) fun ok =>
  if ok = true then
  (some k)
  else
  (Bk f aa (k + 1))
def CN (s_ : List Int) (f : Int → Option Bool) : Option Int :=
  Bk f s_ 0
def Cm (s_ : List Int) (f : Int → Option Bool) : Option Bool :=
  b1 (CN s_ f) fun n =>
  some (decide (0 ≤ n))
def EC (x : Int) (so : Int → Option Bool) : Option Bool :=
  b1 (so x) fun ok =>
  some (!ok)
def Gg (l : List Int) (so : Int → Option Bool) : Option Bool :=
  b1 (Cm l (fun aa : Int => EC aa so)) fun ok =>
  some (!ok)
def HM (p : Int) : Option Bool :=
  b1 (Gu p 0 2) fun ok =>
  some ok
def CO : List Int → Int → Option Int
  | [], n2 =>
  some n2
  | x :: aa, n2 =>
  if x = 1 then
  (gd (C8 (n2 + 1)) <|
  CO aa (n2 + 1))
  else
  (CO aa n2)
def FG (_wide : Int) (plots : List Int) : Option Int :=
  b1 (CO plots 0) fun n =>
  some n
def Ht (wide : Int) (plots : List Int) : Option Int :=
  b1 (b1 (Gu wide 1 6) fun ok =>
  if (!ok) = true then
  (some true)
  else
  (b1 (Gu (plots.length : Int) 1 30) fun aa =>
  if (!aa) = true then
  (some true)
  else
  (gd (wide ≠ 0) <|
  some (decide ((Int.tmod (plots.length : Int) wide) ≠ 0))))) fun k =>
  if k = true then
  (some 2)
  else
  (b1 (Gg plots (fun ab : Int => HM ab)) fun ad =>
  if (!ad) = true then
  (some 3)
  else
  (b1 (FG wide plots) fun n =>
  if 10 < n then
  (some 2)
  else
  (some 0)))
def FN (w : Int) : Option Bool :=
  b1 (Gu w 0 4) fun ok =>
  some ok
def Gm (DI Cf : Int) : Option Int :=
  b1 (b1 (FN DI) fun ok =>
  if (!ok) = true then
  (some true)
  else
  (b1 (Gu Cf 1 40) fun aa =>
  some (!aa))) fun k =>
  if k = true then
  (some 3)
  else
  (some 0)
def FH (_wide : Int) (plots : List Int) (p : Int) : Option Bool :=
  gd (C8 ((plots.length : Int) - 1)) <|
  b1 (Gu p 0 ((plots.length : Int) - 1)) fun ok =>
  some ok
def FZ (wide : Int) (plots : List Int) (p kind : Int) : Option Int :=
  b1 (FH wide plots p) fun ok =>
  if (!ok) = true then
  (some 1)
  else
  (ix plots p fun x =>
  if x ≠ kind then
  (some 8)
  else
  (some 0))
def Mq : Option (List (Int × (Int × Int))) :=
  bv (I9 [] 1 (-1, 0)) fun met =>
  bv (I9 met 2 (0, 1)) fun aa =>
  bv (I9 aa 3 (1, 0)) fun ab =>
  bv (I9 ab 4 (0, -1)) fun ad =>
  some ad
def HF (wide : Int) (plots : List Int) (DI : Int) : Option ((Option (Int × (List Int) × Int × Int × Bool)) × Int) :=
  b1 (Ht wide plots) fun n =>
  if n ≠ 0 then
  (some (none, n))
  else
  (b1 (FN DI) fun ok =>
  if (!ok) = true then
  (some (none, 3))
  else
  (b1 (Mq) fun m =>
  some (some (wide, plots, ((AZ m DI).getD (0, 0)).1, ((AZ m DI).getD (0, 0)).2, (AZ m DI).isSome), 0)))
def G8 (wide : Int) (plots : List Int) (DI stand : Int) : Option ((Option (Int × (List Int) × Int × Int × Bool)) × Int) :=
  b2 (HF wide plots DI) fun d n =>
  if n ≠ 0 then
  (some (none, n))
  else
  (b1 (FZ wide plots stand 0) fun n2 =>
  if n2 ≠ 0 then
  (some (none, n2))
  else
  (some (d, 0)))
def E4 (_wide : Int) (plots : List Int) (p : Int) : Option Bool :=
  ix plots p fun x =>
  some (decide (x = 2))
def H3 (down BL : Int) : Option (Int × Int) :=
  gd (C8 (-down)) <|
  gd (C8 (-BL)) <|
  some (-down, -BL)
def Fg (_wide : Int) (plots : List Int) (down BL : Int) (De : Bool) (ab aa to : Int) : Option Int :=
  b1 (if (!De) = true then
  (some 2)
  else
  (if ab = down ∧ aa = BL then
  (some 1)
  else
  (b2 (H3 down BL) fun n2 n3 =>
  if ab = n2 ∧ aa = n3 then
  (some 4)
  else
  (some 2)))) fun n =>
  ix plots to fun x =>
  if x = 1 then
  (gd (C8 (n + 1)) <|
  some (n + 1))
  else
  (some n)
def BQ (p wide : Int) (plots : List Int) (down BL : Int) (De : Bool) (closed : Int → Option Bool) : Nat → Int → Option (List (Int × Int))
  | 0, _k =>
  some []
  | aa + 1, k =>
  ix [(-1, 0), (0, -1), (0, 1), (1, 0)] k fun x =>
  gd (C8 (x.1 * wide)) <|
  gd (C8 (p + (x.1 * wide))) <|
  gd (C8 ((p + (x.1 * wide)) + x.2)) <|
  b1 (FH wide plots ((p + (x.1 * wide)) + x.2)) fun ok =>
  if (!ok) = true then
  (BQ p wide plots down BL De closed aa (k + 1))
  else
  (if x.1 = 0 then
  (gd ((wide : Int) ≠ 0 ∧ C8 (Int.tdiv ((p + (x.1 * wide)) + x.2) wide)) <|
  gd ((wide : Int) ≠ 0 ∧ C8 (Int.tdiv p wide)) <|
  if (Int.tdiv ((p + (x.1 * wide)) + x.2) wide) ≠ (Int.tdiv p wide) then
  (BQ p wide plots down BL De closed aa (k + 1))
  else
  (b1 (closed ((p + (x.1 * wide)) + x.2)) fun ab =>
  if ab = true then
  (BQ p wide plots down BL De closed aa (k + 1))
  else
  (b1 (Fg wide plots down BL De x.1 x.2 ((p + (x.1 * wide)) + x.2)) fun n =>
  yl ((p + (x.1 * wide)) + x.2, n) <|
  BQ p wide plots down BL De closed aa (k + 1))))
  else
  (b1 (closed ((p + (x.1 * wide)) + x.2)) fun ad =>
  if ad = true then
  (BQ p wide plots down BL De closed aa (k + 1))
  else
  (b1 (Fg wide plots down BL De x.1 x.2 ((p + (x.1 * wide)) + x.2)) fun n2 =>
  yl ((p + (x.1 * wide)) + x.2, n2) <|
  BQ p wide plots down BL De closed aa (k + 1))))
def GO (p wide : Int) (plots : List Int) (down BL : Int) (De : Bool) (closed : Int → Option Bool) : Option (List (Int × Int)) :=
  gd (C8 0 ∧ C8 4) <|
  BQ p wide plots down BL De closed (Int.toNat (4 - 0)) 0
def GC (wide : Int) (plots : List Int) (down BL : Int) (De : Bool) (p : Int) : Option (List (Int × Int)) :=
  b1 (GO p wide plots down BL De (fun aa : Int => E4 wide plots aa)) fun l =>
  some l
def Dy : Nat → Int → (List Int) → Option (List Int)
  | 0, _k, aa =>
  some aa
  | ad + 1, k, aa =>
  ix aa k fun _x =>
  bv (aa.set (k : Int).toNat (-1)) fun ab =>
  Dy ad (k + 1) ab
def Cy (x3 : Int) (rec2 : (List Int) → (List Int) → Option (List Int)) : List (Int × Int) → (List Int) → (List Int) → Option (List Int)
  | [], aa, ab =>
  rec2 aa ab
  | x4 :: ae, aa, ab =>
  b1 (ix aa x4.1 fun x5 =>
  if x5 = (-1) then
  (some true)
  else
  (ix aa x3 fun x6 =>
  gd (C8 (x6 + x4.2)) <|
  some (decide ((x6 + x4.2) < x5)))) fun k2 =>
  if k2 = true then
  (ix aa x3 fun x7 =>
  gd (C8 (x7 + x4.2)) <|
  ix aa x4.1 fun _x8 =>
  bv (aa.set (x4.1 : Int).toNat (x7 + x4.2)) fun l2 =>
  ap ab [x4.1] fun ad =>
  Cy x3 rec2 ae l2 ad)
  else
  (Cy x3 rec2 ae aa ab)
def Dx (wide : Int) (plots : List Int) (down BL : Int) (De : Bool) : Nat → (List Int) → (List Int) → Option (List Int)
  | 0, _, _ => none
  | ad + 1, aa, line =>
  if 0 < (line.length : Int) then
  (ix line 0 fun x3 =>
  gd ((0 ≤ (1 : Int) ∧ (1 : Int) ≤ (line.length : Int)) ∧ (line.length : Int) ≤ line.length) <|
  bv (sl line 1 (line.length : Int)) fun ab =>
  b1 (GC wide plots down BL De x3) fun y =>
  Cy x3 (Dx wide plots down BL De ad) y aa ab)
  else
  (some aa)
def FE (wide : Int) (plots : List Int) (down BL : Int) (De : Bool) (stand : Int) : Option (List Int) :=
  gd (0 ≤ (plots.length : Int) ∧ (plots.length : Int) ≤ 1048576) <|
  bv (List.replicate ((plots.length : Int) : Int).toNat 0 : List Int) fun l =>
  b1 (gd (C8 0 ∧ C8 (l.length : Int)) <|
  Dy (Int.toNat ((l.length : Int) - 0)) 0 l) fun out =>
  ix out stand fun _x2 =>
  bv (out.set (stand : Int).toNat 0) fun aa =>
  b1 (Dx wide plots down BL De FU aa [stand]) fun ab =>
  some ab
def Jo (wide : Int) (plots : List Int) (DI stand : Int) : Option ((List Int) × Int) :=
  b2 (G8 wide plots DI stand) fun d n =>
  if n ≠ 0 then
  (some ([], n))
  else
  (b5 d fun ab aa down BL De =>
  b1 (FE ab aa down BL De stand) fun l =>
  some (l, 0))
def D6 (plots : List Int) (Cf : Int) : List Int → Int → (List Int) → Option (List Int)
  | [], _k, aa =>
  some aa
  | x :: ad, k, aa =>
  b1 (ix plots k fun x2 =>
  if x2 = 1 then
  (b1 (Gu x 0 Cf) fun ok =>
  some ok)
  else
  (some false)) fun k2 =>
  if k2 = true then
  (ap aa [k] fun ab =>
  D6 plots Cf ad (k + 1) ab)
  else
  (D6 plots Cf ad (k + 1) aa)
def Iw (wide : Int) (plots : List Int) (DI Cf stand : Int) : Option ((List Int) × Int) :=
  b1 (Ht wide plots) fun n =>
  if n ≠ 0 then
  (some ([], n))
  else
  (b1 (Gm DI Cf) fun n2 =>
  if n2 ≠ 0 then
  (some ([], n2))
  else
  (b2 (Jo wide plots DI stand) fun l n3 =>
  if n3 ≠ 0 then
  (some ([], n3))
  else
  (b1 (D6 plots Cf l 0 []) fun out =>
  some (out, 0))))
def BV (metal : List Int) : Nat → Int → Int → Int → (List Int) → Option ((List Int) × Int × Int)
  | 0, _k, ab, aa, ad =>
  some (ad, ab, aa)
  | ai + 1, k, ab, aa, ad =>
  b3 (B7 metal ab aa k) fun n2 ah af =>
  ap ad [k] fun ae =>
  ix ae k fun x =>
  ix ae n2 fun x2 =>
  bv (ae.set (n2 : Int).toNat x) fun l =>
  ix l k fun _x3 =>
  bv (l.set (k : Int).toNat x2) fun l2 =>
  BV metal ai (k + 1) ah af l2
def D8 (metal : List Int) (at_ Fv n : Int) : Option ((List Int) × Int × Int) :=
  b3 (gd (C8 0 ∧ C8 (if n > 0 then n else 0)) <|
  BV metal (Int.toNat ((if n > 0 then n else 0) - 0)) 0 at_ Fv []) fun out ab aa =>
  some (out, ab, aa)
def CF (plots : List Int) (Cf k : Int) : List Int → Int → (List (List Bool)) → Option (List (List Bool))
  | [], _k2, aa =>
  some aa
  | x2 :: ad, k2, aa =>
  b1 (ix plots k2 fun x3 =>
  if x3 = 1 then
  (b1 (Gu x2 0 Cf) fun ok =>
  some ok)
  else
  (some false)) fun k3 =>
  if k3 = true then
  (ix aa k2 fun x4 =>
  ix x4 k fun _x5 =>
  bv (aa.set (k2 : Int).toNat (x4.set (k : Int).toNat true)) fun ab =>
  CF plots Cf k ad (k2 + 1) ab)
  else
  (CF plots Cf k ad (k2 + 1) aa)
def Dn (wide : Int) (plots : List Int) (down BL : Int) (De : Bool) (Cf : Int) : List Int → Int → (List (List Bool)) → Option (List (List Bool))
  | [], _k, aa =>
  some aa
  | x :: ad, k, aa =>
  b1 (if x ≠ 0 then
  (some aa)
  else
  (b1 (FE wide plots down BL De k) fun l2 =>
  CF plots Cf k l2 0 aa)) fun ab =>
  Dn wide plots down BL De Cf ad (k + 1) ab
def Ge (wide : Int) (plots : List Int) (down BL : Int) (De : Bool) (Cf : Int) : Option (List (List Bool)) :=
  gd (0 ≤ (plots.length : Int) ∧ (plots.length : Int) ≤ 1048576) <|
  bv (List.replicate ((plots.length : Int) : Int).toNat (List.replicate 30 false) : List (List Bool)) fun l =>
  b1 (Dn wide plots down BL De Cf plots 0 l) fun out =>
  some out
def Hu (wide : Int) (plots : List Int) (DI Cf : Int) : Option ((List (List Bool)) × Int) :=
  b1 (Ht wide plots) fun n =>
  if n ≠ 0 then
  (some ([], n))
  else
  (b1 (Gm DI Cf) fun n2 =>
  if n2 ≠ 0 then
  (some ([], n2))
  else
  (b2 (HF wide plots DI) fun d _n3 =>
  b5 d fun ab aa down BL De =>
  b1 (Ge ab aa down BL De Cf) fun l =>
  some (l, 0)))
def Hv : Option Int :=
  some 0
def DM (wide : Int) (plots Af : List Int) : List Int → Int → Option Int
  | [], _k =>
  Hv
  | x :: ab, k =>
  b1 (FZ wide plots x 1) fun n =>
  if n ≠ 0 then
  (some n)
  else
  (gd ((0 ≤ (0 : Int) ∧ (0 : Int) ≤ k) ∧ k ≤ Af.length) <|
  bv (sl Af 0 k) fun aa =>
  b1 (Bl aa x) fun ok =>
  if ok = true then
  (some 5)
  else
  (DM wide plots Af ab (k + 1)))
def Hh (wide : Int) (plots Af : List Int) : Option Int :=
  DM wide plots Af Af 0
def Fk : Nat → Int → Int → Option Int
  | 0, _, _ => none
  | ab + 1, aa, n2 =>
  if 0 < aa then
  (gd (C8 (n2 + (Int.tmod aa 2))) <|
  gd ((2 : Int) ≠ 0 ∧ C8 (Int.tdiv aa 2)) <|
  Fk ab (Int.tdiv aa 2) (n2 + (Int.tmod aa 2)))
  else
  (some n2)
def HB (Bs : Int) : Option Int :=
  b1 (Fk FU Bs 0) fun n =>
  some n
def ET (l : List (List Bool)) : List Int → (List (List Bool)) → Option (List (List Bool))
  | [], aa =>
  some aa
  | x :: ab, aa =>
  ix l x fun x2 =>
  ap aa [x2] fun l2 =>
  ET l ab l2
def Jr (wide : Int) (plots : List Int) (DI Cf : Int) (Af : List Int) : Option ((List (List Bool)) × Bool × Int) :=
  b2 (Hu wide plots DI Cf) fun l n =>
  if n ≠ 0 then
  (some ([], false, n))
  else
  (b1 (Hh wide plots Af) fun n2 =>
  if n2 ≠ 0 then
  (some ([], false, n2))
  else
  (b1 (ET l Af []) fun aa =>
  some (aa, true, 0)))
def DC : Option Int :=
  some (-1)
def Bv (v : List Bool) : List (List Bool) → Int → Option Int
  | [], _k =>
  DC
  | x :: aa, k =>
  if v = x then
  (some k)
  else
  (Bv v aa (k + 1))
def Da (s_ : List (List Bool)) (v : List Bool) : Option Int :=
  Bv v s_ 0
def CR (s_ : List (List Bool)) (v : List Bool) : Option Bool :=
  b1 (Da s_ v) fun n =>
  some (decide (0 ≤ n))
def Fl (D3 : List (List Bool)) (_count : Int → Option Int) : Option Bool :=
  b1 (CR D3 (List.replicate 30 false)) fun ok =>
  some ok
def A6 (k : Int) : Nat → (List (List Bool)) → Int → Int → Option ((List (List Bool)) × Int)
  | 0, _, _, _ => none
  | ad + 1, ab, k3, aa =>
  if aa < ((ab.length - Int.toNat k : Nat) : Int) then
  (ix (ab.drop (Int.toNat k)) aa fun x3 =>
  gd (C8 (aa - 1)) <|
  ix (ab.drop (Int.toNat k)) (aa - 1) fun x4 =>
  if x3 ≠ x4 then
  (ix ab k3 fun _x5 =>
  bv (ab.set (k3 : Int).toNat x3) fun ae =>
  gd (C8 (k3 + 1)) <|
  gd (C8 (aa + 1)) <|
  A6 k ad ae (k3 + 1) (aa + 1))
  else
  (gd (C8 (aa + 1)) <|
  A6 k ad ab k3 (aa + 1)))
  else
  (some (ab, k3))
def CL (k : Int) (rec2 : Int → Option (List (List Bool))) : Option (List (List Bool)) :=
  rec2 (k + 1)
def CJ (s_ : List (List Bool)) : Option (List (List Bool)) :=
  some s_
def Ba (s_ : List (List Bool)) : Nat → Int → Option (List (List Bool))
  | 0, _k =>
  CJ s_
  | ad + 1, k =>
  ix s_ k fun x =>
  gd (C8 (k - 1)) <|
  ix s_ (k - 1) fun x2 =>
  if x = x2 then
  (gd (0 ≤ k ∧ k ≤ (s_.length : Int)) <|
  b2 (A6 k FU s_ k 1) fun aa k2 =>
  gd (0 ≤ k2 ∧ k2 ≤ (aa.length : Int)) <|
  bv (aa.take (Int.toNat k2) ++ List.replicate (aa.length - Int.toNat k2) (List.replicate 30 false) : List (List Bool)) fun ab =>
  gd ((0 ≤ (0 : Int) ∧ (0 : Int) ≤ k2) ∧ k2 ≤ ab.length) <|
  bv (sl ab 0 k2) fun ae =>
  some ae)
  else
  CL k (Ba s_ ad)
def Ch (s_ : List (List Bool)) : Option (List (List Bool)) :=
  if (s_.length : Int) < 2 then
  (some s_)
  else
  (gd (C8 1 ∧ C8 (s_.length : Int)) <|
  Ba s_ (Int.toNat ((s_.length : Int) - 1)) 1)
def CB (s_ : List (List Bool)) : Option (List (List Bool)) :=
  P5 (s_ = []) (some []) (ap ([] : List (List Bool)) s_ fun l =>
  some l)
def CH (stand : Int) : List (List Bool) → Int → Int → Option Int
  | [], _k, aa =>
  some aa
  | x :: ab, k, aa =>
  ix x stand fun x2 =>
  if x2 = true then
  (gd ((0 ≤ (k : Int) ∧ (k : Int) < 64) ∧ C8 (shl 1 k)) <|
  CH stand ab (k + 1) (LR aa (shl 1 k)))
  else
  (CH stand ab (k + 1) aa)
def EI (D3 : List (List Bool)) (_count : Int → Option Int) (stand : Int) : Option Int :=
  b1 (CH stand D3 0 0) fun Bs =>
  some Bs
def Fu : List Int → Int → Option Int
  | [], n3 =>
  some n3
  | x :: aa, n3 =>
  Fu aa (if x < n3 then x else n3)
def Jf (n : Int) (more : List Int) : Option Int :=
  b1 (Fu more n) fun n2 =>
  some n2
def ER (ab : Int → Int → Int → (List (List Bool)) → (Int → Option Int) → (List ((Int × Int × Int) × Int)) → Option (Int × (List ((Int × Int × Int) × Int)))) (from_ aa Bs : Int) (D3 : List (List Bool)) (count : Int → Option Int) (met : List ((Int × Int × Int) × Int)) : Option (Int × (List ((Int × Int × Int) × Int))) :=
  b1 (if aa = 0 then
  (some true)
  else
  (some (decide (from_ = 30)))) fun k =>
  if k = true then
  (b1 (count Bs) fun n =>
  some (n, met))
  else
  (bv ((AZ met (from_, aa, Bs)).getD 0) fun n2 =>
  if ((AZ met (from_, aa, Bs)).isSome) = true then
  (some (n2, met))
  else
  (gd (C8 (from_ + 1)) <|
  b2 (ab (from_ + 1) aa Bs D3 count met) fun n3 ad =>
  b2 (b1 (EI D3 count from_) fun n5 =>
  if (LR Bs n5) ≠ Bs then
  (gd (C8 (from_ + 1)) <|
  gd (C8 (aa - 1)) <|
  b2 (ab (from_ + 1) (aa - 1) (LR Bs n5) D3 count ad) fun n6 ae =>
  some (ae, if n6 > n3 then n6 else n3))
  else
  (some (ad, n3))) fun m n4 =>
  bv (I9 m (from_, aa, Bs) n4) fun af =>
  some (n4, af)))
def BA : Nat → Int → Int → Int → (List (List Bool)) → (Int → Option Int) → (List ((Int × Int × Int) × Int)) → Option (Int × (List ((Int × Int × Int) × Int)))
  | 0, _, _, _, _, _, _ => none
  | fu + 1, from_, aa, Bs, D3, count, met =>
  ER (BA fu) from_ aa Bs D3 count met
def Cs (D3 : List (List Bool)) (count : Int → Option Int) (n2 : Int) : Nat → (List ((Int × Int × Int) × Int)) → Int → Option ((List ((Int × Int × Int) × Int)) × Int)
  | 0, _, _ => none
  | ad + 1, m2, aa =>
  b2 (BA FU 0 aa 0 D3 count m2) fun n3 ab =>
  if n3 < n2 then
  (gd (C8 (aa + 1)) <|
  Cs D3 count n2 ad ab (aa + 1))
  else
  (some (ab, aa))
def CX (D3 : List (List Bool)) (count : Int → Option Int) (n2 ab ad : Int) : Nat → (List ((Int × Int × Int) × Int)) → Int → Option ((List ((Int × Int × Int) × Int)) × Int)
  | 0, _, _ => none
  | af + 1, m5, aa =>
  gd (C8 (aa + 1)) <|
  gd (C8 (ab - 1)) <|
  b1 (EI D3 count aa) fun n4 =>
  b2 (BA FU (aa + 1) (ab - 1) (LR ad n4) D3 count m5) fun n5 ae =>
  if n5 < n2 then
  (gd (C8 (aa + 1)) <|
  CX D3 count n2 ab ad af ae (aa + 1))
  else
  (some (ae, aa))
def B9 (D3 : List (List Bool)) (count : Int → Option Int) (n2 : Int) : Nat → (List ((Int × Int × Int) × Int)) → Int → Int → Int → (List Int) → Option (List Int)
  | 0, _, _, _, _, _ => none
  | ai + 1, m3, ae, aa, ad, af =>
  if 0 < aa then
  (b2 (CX D3 count n2 aa ad FU m3 ae) fun m4 ab =>
  ap af [ab] fun ah =>
  gd (C8 (ab + 1)) <|
  gd (C8 (aa - 1)) <|
  b1 (EI D3 count ab) fun n6 =>
  B9 D3 count n2 ai m4 (ab + 1) (aa - 1) (LR ad n6) ah)
  else
  (some af)
def EN (D3 : List (List Bool)) (count : Int → Option Int) (most : Int) : Option ((List Int) × Int) :=
  b1 (Jf most [(D3.length : Int)]) fun n =>
  b2 (BA FU 0 n 0 D3 count []) fun n2 met =>
  b2 (Cs D3 count n2 FU met 0) fun m aa =>
  b1 (B9 D3 count n2 FU m 0 aa 0 []) fun out =>
  some (out, n2)
def FT (wide : Int) (plots : List Int) (DI Cf : Int) (Af : List Int) : Option ((List Int) × Int) :=
  b3 (Jr wide plots DI Cf Af) fun l y n =>
  if n ≠ 0 then
  (some ([], n))
  else
  (gd (y = true) <|
  b1 (Fl l (fun aa : Int => HB aa)) fun ok =>
  if ok = true then
  (some ([], 6))
  else
  (b1 (CB l) fun l2 =>
  b1 (Ch l2) fun l3 =>
  b2 (EN l3 (fun aa : Int => HB aa) (l3.length : Int)) fun l4 _n2 =>
  some (l4, 0)))
def EO (l : List (List Bool)) : List Int → Int → (List Int) → Option (List Int)
  | [], _k, aa =>
  some aa
  | x :: ad, k, aa =>
  b1 (if x = 1 then
  (ix l k fun x2 =>
  some (decide (x2 = (List.replicate 30 false))))
  else
  (some false)) fun k2 =>
  if k2 = true then
  (ap aa [k] fun ab =>
  EO l ad (k + 1) ab)
  else
  (EO l ad (k + 1) aa)
def JN (wide : Int) (plots : List Int) (DI Cf : Int) : Option ((List Int) × Int) :=
  b2 (Hu wide plots DI Cf) fun l n =>
  if n ≠ 0 then
  (some ([], n))
  else
  (b1 (EO l plots 0 []) fun out =>
  some (out, 0))
def Ep (Ac : Hk) (AG ad : Fa) (ab ae : Int) (aa : Hk) (af : List Int) (AN : List (Int × Int)) (hit : List Int) : List (Int × Int) → (List (Int × Int)) → Option (List (Int × Int))
  | [], ah =>
  some ah
  | x :: aj, ah =>
  b1 (D1 AG ad ab ae aa af AN hit x.1 x.2) fun n2 =>
  ix Ac x.1 fun x2 =>
  b1 (EM n2 0 x2.2.2) fun ok =>
  if (!ok) = true then
  (ap ah [(x.1, x.2)] fun ai =>
  Ep Ac AG ad ab ae aa af AN hit aj ai)
  else
  (Ep Ac AG ad ab ae aa af AN hit aj ah)
def Ji (walks Ao : Fa) (Af start : Int) (Ac : Hk) : Option ((List (Int × Int)) × Int) :=
  b2 (CA walks Ao Af start Ac) fun d n =>
  if n ≠ 0 then
  (some ([], n))
  else
  (b1 (b8 d fun AG ad ab ae aa af AN hit =>
  Ep Ac AG ad ab ae aa af AN hit AN []) fun out =>
  some (out, 0))
def Dt : Option Int :=
  some (-1)
def Bm (Bx Co : Int) : List (Int × Int) → Int → Option Int
  | [], _k =>
  Dt
  | x :: aa, k =>
  if Bx = x.1 ∧ Co = x.2 then
  (some k)
  else
  (Bm Bx Co aa (k + 1))
def CZ (s_ : List (Int × Int)) (Bx Co : Int) : Option Int :=
  Bm Bx Co s_ 0
def BZ (s_ : List (Int × Int)) (Bx Co : Int) : Option Bool :=
  b1 (CZ s_ Bx Co) fun n =>
  some (decide (0 ≤ n))
def Db (x : List Bool) : Nat → Int → (List Int) → Option (List Int)
  | 0, _k, aa =>
  some aa
  | ad + 1, k, aa =>
  ix x k fun x2 =>
  if x2 = true then
  (ap aa [k] fun ab =>
  Db x ad (k + 1) ab)
  else
  (Db x ad (k + 1) aa)
def GB (x : List Bool) : Option (List Int) :=
  b1 (gd (C8 0 ∧ C8 30) <|
  Db x (Int.toNat (30 - 0)) 0 []) fun out =>
  some out
def Iu (wide : Int) (plots : List Int) (DI Cf Co : Int) : Option ((List Int) × Int) :=
  b2 (Hu wide plots DI Cf) fun l n =>
  if n ≠ 0 then
  (some ([], n))
  else
  (b1 (FZ wide plots Co 1) fun n2 =>
  if n2 ≠ 0 then
  (some ([], n2))
  else
  (ix l Co fun x =>
  b1 (GB x) fun l2 =>
  some (l2, 0)))
def EH : Option Int :=
  some (-1)
def Bw (f : Int → Option Bool) : List Int → Int → Option Int
  | [], _k =>
  EH
  | x :: aa, k =>
  b1 (f x) fun ok =>
  if ok = true then
  (some k)
  else
  (Bw f aa (k + 1))
def Ee (s_ : List Int) (f : Int → Option Bool) : Option Int :=
  Bw f s_ 0
def C0 (s_ : List Int) (f : Int → Option Bool) : Option Bool :=
  b1 (Ee s_ f) fun n =>
  some (decide (0 ≤ n))
def Dj (x : Int) (aa : List (Int × Bool)) : Option Bool :=
  some ((AZ aa x).getD false)
def A9 : Nat → Int → (List Int) → (List Int) → (List Int) → Option ((List Int) × (List Int) × (List Int))
  | 0, _k, aa, ab, ad =>
  some (aa, ab, ad)
  | ah + 1, k, aa, ab, ad =>
  ix aa k fun x =>
  b1 (if x = 0 then
  (some (decide ((ab.length : Int) < 5)))
  else
  (some false)) fun k2 =>
  if k2 = true then
  (ap ab [k] fun ae =>
  A9 ah (k + 1) aa ae ad)
  else
  (if x = 0 then
  (bv (aa.set (k : Int).toNat 2) fun aj =>
  A9 ah (k + 1) aj ab ad)
  else
  (b1 (if x = 1 then
  (some (decide ((ad.length : Int) < 5)))
  else
  (some false)) fun k3 =>
  if k3 = true then
  (ap ad [k] fun af =>
  A9 ah (k + 1) aa ab af)
  else
  (if x = 1 then
  (bv (aa.set (k : Int).toNat 2) fun ai =>
  A9 ah (k + 1) ai ab ad)
  else
  (A9 ah (k + 1) aa ab ad))))
def BM (Af : List Int) : List Int → (List Int) → Option (List Int)
  | [], aa =>
  some aa
  | x3 :: ad, aa =>
  b1 (Dp Af x3) fun n5 =>
  ap aa [n5] fun ab =>
  BM Af ad ab
def BN (ad : List Int) (k4 : Int) : List Int → Int → Int → Int → (List Int) → Option (Int × Int × (List Int))
  | [], _k6, ae, ab, aa =>
  some (ae, ab, aa)
  | _x4 :: aj, k6, ae, ab, aa =>
  gd (C8 (k4 - k6)) <|
  gd (C8 (k6 - k4)) <|
  b3 (BR ad ae ab 1 5) fun n6 ai ah =>
  gd (C8 ((if (if k6 - k4 > k4 - k6 then k6 - k4 else k4 - k6) < 1 then (if k6 - k4 > k4 - k6 then k6 - k4 else k4 - k6) else 1) * n6)) <|
  ap aa [(if (if k6 - k4 > k4 - k6 then k6 - k4 else k4 - k6) < 1 then (if k6 - k4 > k4 - k6 then k6 - k4 else k4 - k6) else 1) * n6] fun af =>
  BN ad k4 aj (k6 + 1) ai ah af
def DV (k4 : Int) (af : Int → Int → Int → Fa → Fa → Option Bool) (ae ad : Int) (aa ab : Fa) : Option Bool :=
  af (k4 + 1) ae ad aa ab
def Cc (Af : List Int) : List Int → (List Int) → Option (List Int)
  | [], aa =>
  some aa
  | x5 :: ad, aa =>
  ix Af x5 fun x6 =>
  ap aa [x6] fun ab =>
  Cc Af ad ab
def C1 (l6 : List Int) (aa : List (Int × Bool)) : Option Bool :=
  if (l6.length : Int) ≤ (aa.length : Int) then
  (b1 (Fi) fun ab =>
  some ab)
  else
  (some false)
def B3 (n n2 n3 : Int) (aa l6 : List Int) (ab : List (Int × Bool)) : List Int → Option Bool
  | [] =>
  C1 l6 ab
  | ae :: ad =>
  b2 (Iu n aa n2 n3 ae) fun af ah =>
  b1 (if ah ≠ 0 then
  (some true)
  else
  (b1 (C0 af (fun ai : Int => Dj ai ab)) fun aj =>
  some (!aj))) fun ak =>
  if ak = true then
  (some false)
  else
  (B3 n n2 n3 aa l6 ab ad)
def C2 (n n2 n3 : Int) (aa plots l6 : List Int) (ab : List (Int × Bool)) : Option Bool :=
  B3 n n2 n3 aa l6 ab plots
def B5 (n n2 n3 : Int) (aa ab plots l6 : List Int) : List (Int × Int) → (List (Int × Bool)) → Option Bool
  | [], ad =>
  C2 n n2 n3 aa plots l6 ad
  | x9 :: ae, ad =>
  b1 (if x9.1 < 0 then
  (some true)
  else
  (some (decide ((ab.length : Int) ≤ x9.1)))) fun af =>
  if af = true then
  (some false)
  else
  (ix ab x9.1 fun ah =>
  bv (I9 ad ah true) fun met =>
  B5 n n2 n3 aa ab plots l6 ae met)
def CK (n n2 n3 : Int) (aa ab plots l6 : List Int) (n9 : Int) (l8 : List (Int × Int)) : Option Bool :=
  if n9 ≠ 0 then
  (b1 (Fi) fun ad =>
  some ad)
  else
  (B5 n n2 n3 aa ab plots l6 l8 [])
def Cb (n n2 n3 : Int) (aa ab Af plots l6 : List Int) (n9 : Int) (l7 : List Int) (l8 l9 : List (Int × Int)) : List Int → Option Bool
  | [] =>
  CK n n2 n3 aa ab plots l6 n9 l8
  | x7 :: ad =>
  ix Af x7 fun x8 =>
  b1 (Bl l7 x8) fun ae =>
  b1 (BZ l9 0 x7) fun af =>
  if ae ≠ af then
  (some false)
  else
  (Cb n n2 n3 aa ab Af plots l6 n9 l7 l8 l9 ad)
def CM (ab : List Int) (n n2 n3 : Int) (aa af Af : List Int) (ak ah : Int) (ad ae : Fa) : Option Bool :=
  b3 (D8 ab ak ah (Af.length : Int)) fun l5 al ai =>
  b3 (BR ab al ai 1 (l5.length : Int)) fun n7 ao aj =>
  gd ((0 ≤ (0 : Int) ∧ (0 : Int) ≤ n7) ∧ n7 ≤ l5.length) <|
  bv (sl l5 0 n7) fun quarter =>
  b3 (BR ab ao aj 1 3) fun n8 _au _aq =>
  b1 (Cc Af quarter []) fun plots =>
  b2 (FT n aa n2 n3 plots) fun l6 n9 =>
  b2 (JN n aa n2 n3) fun l7 av =>
  b3 (Hw ad ae (Af.length : Int) 0 [(quarter, n8, 200)]) fun l8 _ax ar =>
  b2 (Ji ad ae (Af.length : Int) 0 [(quarter, n8, 200)]) fun l9 aw =>
  b1 (if av ≠ 0 then
  (some true)
  else
  (if aw ≠ 0 then
  (some true)
  else
  (if n9 ≠ 0 then
  (if n9 ≠ 6 then
  (some true)
  else
  (some (decide (n9 ≠ ar))))
  else
  (some (decide (n9 ≠ ar)))))) fun k8 =>
  if k8 = true then
  (some false)
  else
  (Cb n n2 n3 aa af Af plots l6 n9 l7 l8 l9 quarter)
def BO (ah : List Int) (n n2 n3 : Int) (aa ae Af : List Int) : List Int → Int → Int → Int → Fa → Fa → Option Bool
  | [], _k4, ai, af, ab, ad =>
  CM ah n n2 n3 aa ae Af ai af ab ad
  | x2 :: ao, k4, ai, af, ab, ad =>
  b2 (Iw n aa n2 n3 x2) fun l2 n4 =>
  if n4 ≠ 0 then
  (some false)
  else
  (b1 (BM Af l2 []) fun own =>
  b1 (Bl own (-1)) fun aq =>
  if aq = true then
  (some false)
  else
  (b3 (BN ah k4 ae 0 ai af []) fun al aj ak =>
  ap ad [own] fun l3 =>
  ap ab [ak] fun l4 =>
  DV k4 (BO ah n n2 n3 aa ae Af ao) al aj l4 l3))
def DA (numbers walks : List Int) : Option Bool :=
  b3 (HW numbers) fun metal at_ Fv =>
  b3 (HW walks) fun ad ah ae =>
  b4 (GI metal at_ Fv 12) fun n l ai af =>
  b4 (Gh metal ai af) fun n2 n3 _ak _aj =>
  b3 (gd (C8 0 ∧ C8 (l.length : Int)) <|
  A9 (Int.toNat ((l.length : Int) - 0)) 0 l [] []) fun aa ab Af =>
  if (Af.length : Int) = 0 then
  (b1 (Fi) fun ok =>
  some ok)
  else
  (BO ad n n2 n3 aa ab Af ab 0 ah ae [] [])
end Go.Proofs.YtfmapnhfamoecabGreat
