/- Plain functions that mirror the code, printed by a program of mine. -/
import Derived.Test.YtdhookifhfkcpaaGreatZBPl
namespace Go.Proofs.YtdhookifhfkcpaaGreat
open Go.PL
abbrev Di := List (List Int)
abbrev Cw := List (Int × Int × Int)
abbrev Cx := List (List (List Int))
def C1 : Option (Int × Int × Cx × (List Int) × Cw) :=
  some (2, 1, [[[0], [0, 1], [1], [1], [], [], [], []]], [1, -1, 4], [(0, 0, 0), (2, 0, 0)])
def CT : Option (Int × Int × Cx × (List Int) × Cw) :=
  some (2, 1, [[[0], [0, 1], [1], [1], [], [], [], []]], [1, -1, 4], [(0, 0, 0), (2, 0, 0)])
def HT (n lo hi : Int) : Option Bool :=
  if lo ≤ n then
  (some (decide (n ≤ hi)))
  else
  (some false)
def Ew : Option Int :=
  some (-1)
def Cz (f : Di → Option Bool) : Cx → Int → Option Int
  | [], _k =>
  Ew
  | x :: aa, k =>
  b1 (f x) fun ok =>
  if ok = true then
  (some k)
  else
  (Cz f aa (k + 1))
def FJ (s_ : Cx) (f : Di → Option Bool) : Option Int :=
  Cz f s_ 0
def Ex (s_ : Cx) (f : Di → Option Bool) : Option Bool :=
  b1 (FJ s_ f) fun n =>
  some (decide (0 ≤ n))
def Hi (x : Di) (so : Di → Option Bool) : Option Bool :=
  b1 (so x) fun ok =>
  some (!ok)
def JT (l : Cx) (so : Di → Option Bool) : Option Bool :=
  b1 (Ex l (fun aa : Di => Hi aa so)) fun ok =>
  some (!ok)
def FQ (l : Di) : Option Bool :=
  some (decide ((l.length : Int) = 8))
def Ii (Af Ac : Int) (Ah : Cx) (Ab : List Int) (Ak : Cw) : Option Bool :=
  b1 (HT Af 1 6) fun ok =>
  if ok = true then
  (b1 (HT Ac 1 4) fun aa =>
  if aa = true then
  (b1 (HT (Ah.length : Int) 1 4) fun ab =>
  gd (ab = true) <|
  b1 (HT (Ab.length : Int) 1 8) fun ad =>
  gd (ad = true) <|
  if (Ak.length : Int) ≤ 12 then
  (b1 (JT Ah (fun ae : Di => FQ ae)) fun ah =>
  some ah)
  else
  (some false))
  else
  (some false))
  else
  (some false)
def HN (Af _Ac : Int) (_Ah : Cx) (_Ab : List Int) (_Ak : Cw) (h : Int) : Option Bool :=
  gd (Cn (Af - 1)) <|
  b1 (HT h 0 (Af - 1)) fun ok =>
  some ok
def Gd : Option Int :=
  some (-1)
def Df (v : Int) : List Int → Int → Option Int
  | [], _k =>
  Gd
  | x :: aa, k =>
  if v = x then
  (some k)
  else
  (Df v aa (k + 1))
def G8 (s_ : List Int) (v : Int) : Option Int :=
  Df v s_ 0
def Gl (s_ : List Int) (v : Int) : Option Bool :=
  b1 (G8 s_ v) fun n =>
  some (decide (0 ≤ n))
def Hy : Option Int :=
  some 0
def En (Af Ac : Int) (Ah : Cx) (Ab : List Int) (Ak : Cw) (l : List Int) : List Int → Int → Option Int
  | [], _k =>
  Hy
  | x :: aa, k =>
  b1 (HN Af Ac Ah Ab Ak x) fun ok =>
  if (!ok) = true then
  (some 1)
  else
  (gd ((0 ≤ (0 : Int) ∧ (0 : Int) ≤ k) ∧ k ≤ l.length) <|
  bv (sl l 0 k) fun l2 =>
  b1 (Gl l2 x) fun ab =>
  if ab = true then
  (some 5)
  else
  (En Af Ac Ah Ab Ak l aa (k + 1)))
def Hk (Af Ac : Int) (Ah : Cx) (Ab : List Int) (Ak : Cw) (l : List Int) : Option Int :=
  En Af Ac Ah Ab Ak l l 0
def Eh : Option Int :=
  some (-1)
def Cq (f : Int → Option Bool) : List Int → Int → Option Int
  | [], _k =>
  Eh
  | x :: aa, k =>
  b1 (f x) fun ok =>
  if ok = true then
  (some k)
  else
  (Cq f aa (k + 1))
def E6 (s_ : List Int) (f : Int → Option Bool) : Option Int :=
  Cq f s_ 0
def Ef (s_ : List Int) (f : Int → Option Bool) : Option Bool :=
  b1 (E6 s_ f) fun n =>
  some (decide (0 ≤ n))
def G2 (x : Int) (so : Int → Option Bool) : Option Bool :=
  b1 (so x) fun ok =>
  some (!ok)
def Ff (l : List Int) (so : Int → Option Bool) : Option Bool :=
  b1 (Ef l (fun aa : Int => G2 aa so)) fun ok =>
  some (!ok)
def KI (n : Int) : Option Bool :=
  if n = (-1) then
  (some true)
  else
  (b1 (HT n 0 7) fun ok =>
  some ok)
def CF : Option Int :=
  some (-1)
def BS (f : (Int × Int × Int) → Option Bool) : Cw → Int → Option Int
  | [], _k =>
  CF
  | x :: aa, k =>
  b1 (f (x.1, x.2.1, x.2.2)) fun ok =>
  if ok = true then
  (some k)
  else
  (BS f aa (k + 1))
def C3 (s_ : Cw) (f : (Int × Int × Int) → Option Bool) : Option Int :=
  BS f s_ 0
def CI (s_ : Cw) (f : (Int × Int × Int) → Option Bool) : Option Bool :=
  b1 (C3 s_ f) fun n =>
  some (decide (0 ≤ n))
def Hp (hour Nt AP : Int) (so : (Int × Int × Int) → Option Bool) : Option Bool :=
  b1 (so (hour, Nt, AP)) fun ok =>
  some (!ok)
def JJ (l : Cw) (so : (Int × Int × Int) → Option Bool) : Option Bool :=
  b1 (CI l (fun aa : (Int × Int × Int) => Hp aa.1 aa.2.1 aa.2.2 so)) fun ok =>
  some (!ok)
def FY (_Af _Ac : Int) (_Ah : Cx) (Ab : List Int) (_Ak : Cw) (h : Int) : Option Bool :=
  gd (Cn ((Ab.length : Int) - 1)) <|
  b1 (HT h 0 ((Ab.length : Int) - 1)) fun ok =>
  some ok
def FX (_Af Ac : Int) (_Ah : Cx) (_Ab : List Int) (_Ak : Cw) (n : Int) : Option Bool :=
  gd (Cn (Ac - 1)) <|
  b1 (HT n 0 (Ac - 1)) fun ok =>
  some ok
def Jt (hour Nt AP Af Ac : Int) (Ah : Cx) (Ab : List Int) (Ak : Cw) : Option Bool :=
  b1 (FY Af Ac Ah Ab Ak hour) fun ok =>
  if ok = true then
  (gd (Cn ((Ah.length : Int) - 1)) <|
  b1 (HT Nt 0 ((Ah.length : Int) - 1)) fun aa =>
  if aa = true then
  (b1 (FX Af Ac Ah Ab Ak AP) fun ab =>
  some ab)
  else
  (some false))
  else
  (some false)
def Kp (aa : Option Int) : Option Int :=
  aa
def HG (Af Ac : Int) (Ah : Cx) (Ab : List Int) (Ak : Cw) (aa : Option Int) : Di → Option Int
  | [] =>
  Kp aa
  | x2 :: ab =>
  b1 (Hk Af Ac Ah Ab Ak x2) fun n =>
  if n ≠ 0 then
  (some n)
  else
  (HG Af Ac Ah Ab Ak aa ab)
def Ko (Af Ac : Int) (Ah : Cx) (Ab : List Int) (Ak : Cw) : Option Int :=
  b1 (Ff Ab (fun aa : Int => KI aa)) fun ab =>
  if (!ab) = true then
  (some 3)
  else
  (b1 (JJ Ak (fun aa : (Int × Int × Int) => Jt aa.1 aa.2.1 aa.2.2 Af Ac Ah Ab Ak)) fun ad =>
  if (!ad) = true then
  (some 1)
  else
  (some 0))
def FC (Af Ac : Int) (Ah : Cx) (Ab : List Int) (Ak : Cw) : Cx → Option Int
  | [] =>
  Ko Af Ac Ah Ab Ak
  | x :: aa =>
  HG Af Ac Ah Ab Ak (FC Af Ac Ah Ab Ak aa) x
def Ek (Af Ac : Int) (Ah : Cx) (Ab : List Int) (Ak : Cw) : Option Int :=
  b1 (Ii Af Ac Ah Ab Ak) fun ok =>
  if (!ok) = true then
  (some 2)
  else
  (FC Af Ac Ah Ab Ak Ah)
def C9 (s2 : List Int) : List Int → Int → Option Unit
  | [], _k =>
  some ()
  | x :: aa, k =>
  ix s2 k fun x2 =>
  gd (¬ (x ≠ x2)) <|
  C9 s2 aa (k + 1)
def D8 (s1 s2 : List Int) : Option Bool :=
  gd (¬ ((s1.length : Int) ≠ (s2.length : Int))) <|
  b0 (C9 s2 s1 0) <|
  some true
def Bz (a b : List Int) : Option Bool :=
  b1 (D8 a b) fun ok =>
  some ok
def G9 (Af Ac : Int) (Ah : Cx) (Ab : List Int) (Ak : Cw) : Option ((Option (Int × Int × Cx × (List Int) × Cw)) × Int) :=
  b1 (Ek Af Ac Ah Ab Ak) fun n =>
  if n ≠ 0 then
  (some (none, n))
  else
  (some (some (Af, Ac, Ah, Ab, Ak), 0))
def Cm (s_ : List Int) : Option (List Int) :=
  Oq (s_ = []) (some []) (ap ([] : List Int) s_ fun l =>
  some l)
def HL : List Int → Int → Option Int
  | [], n3 =>
  some n3
  | x :: aa, n3 =>
  HL aa (if x < n3 then x else n3)
def Mt (n : Int) (more : List Int) : Option Int :=
  b1 (HL more n) fun n2 =>
  some n2
def JA (a b : Int) : Option Bool :=
  gd (Cn (a - b)) <|
  gd (Cn ((a - b) + 8)) <|
  gd (Cn (8 - (Int.tmod ((a - b) + 8) 8))) <|
  b1 (Mt (Int.tmod ((a - b) + 8) 8) [8 - (Int.tmod ((a - b) + 8) 8)]) fun n =>
  some (decide (n ≤ 1))
def EC (_Af _Ac : Int) (_Ah : Cx) (Ab : List Int) (_Ak : Cw) (hour FH : Int) : Option Bool :=
  ix Ab hour fun x =>
  if x = (-1) then
  (some true)
  else
  (b1 (JA FH x) fun ok =>
  some ok)
def EH (FH : Int) : Nat → Int → Option (List Int)
  | 0, _k =>
  some []
  | aa + 1, k =>
  b1 (JA k FH) fun ok =>
  if ok = true then
  (yl k <|
  EH FH aa (k + 1))
  else
  (EH FH aa (k + 1))
def Kq (FH : Int) : Option (List Int) :=
  gd (Cn 0 ∧ Cn 8) <|
  EH FH (Int.toNat (8 - 0)) 0
def J8 (FH : Int) : Option (List Int) :=
  b1 (Kq FH) fun l =>
  some l
def Fo (k k2 : Int) : List Int → Di → Option Di
  | [], aa =>
  some aa
  | x3 :: ab, aa =>
  ix aa k fun x4 =>
  ix x4 k2 fun x5 =>
  gd (Cn (k - 1)) <|
  ix aa (k - 1) fun x6 =>
  ix x6 x3 fun x7 =>
  gd (Cn (x5 + x7)) <|
  bv (aa.set (k : Int).toNat (x4.set (k2 : Int).toNat (x5 + x7))) fun l3 =>
  Fo k k2 ab l3
def Fi (Af Ac : Int) (Ah : Cx) (Ab : List Int) (Ak : Cw) (k : Int) : Nat → Int → Di → Option Di
  | 0, _k2, aa =>
  some aa
  | ad + 1, k2, aa =>
  b1 (b1 (EC Af Ac Ah Ab Ak k k2) fun ok =>
  if (!ok) = true then
  (some aa)
  else
  (if k = 0 then
  (ix aa k fun x =>
  ix x k2 fun _x2 =>
  bv (aa.set (k : Int).toNat (x.set (k2 : Int).toNat 1)) fun l2 =>
  some l2)
  else
  (b1 (J8 k2) fun y =>
  Fo k k2 y aa))) fun ab =>
  Fi Af Ac Ah Ab Ak k ad (k2 + 1) ab
def Fm (Af Ac : Int) (Ah : Cx) (Ab : List Int) (Ak : Cw) : Nat → Int → Di → Option Di
  | 0, _k, aa =>
  some aa
  | ad + 1, k, aa =>
  b1 (gd (Cn 0 ∧ Cn 8) <|
  Fi Af Ac Ah Ab Ak k (Int.toNat (8 - 0)) 0 aa) fun ab =>
  Fm Af Ac Ah Ab Ak ad (k + 1) ab
def Ik (Af Ac : Int) (Ah : Cx) (Ab : List Int) (Ak : Cw) : Option Di :=
  gd (0 ≤ (Ab.length : Int) ∧ (Ab.length : Int) ≤ 1048576) <|
  bv (List.replicate ((Ab.length : Int) : Int).toNat (List.replicate 8 0) : Di) fun l =>
  b1 (gd (Cn 0 ∧ Cn (l.length : Int)) <|
  Fm Af Ac Ah Ab Ak (Int.toNat ((l.length : Int) - 0)) 0 l) fun out =>
  some out
def CL : Nat → (List Int) → Int → Int → Option (List Int)
  | 0, _, _, _ => none
  | ab + 1, aa, i, j =>
  if i < j then
  (ix aa j fun x =>
  ix aa i fun x2 =>
  bv (aa.set (i : Int).toNat x) fun l =>
  ix l j fun _x3 =>
  bv (l.set (j : Int).toNat x2) fun l2 =>
  gd (Cn (i + 1)) <|
  gd (Cn (j - 1)) <|
  CL ab l2 (i + 1) (j - 1))
  else
  (some aa)
def Gq (s_ : List Int) : Option (List Int) :=
  gd (Cn ((s_.length : Int) - 1)) <|
  CL FU s_ 0 ((s_.length : Int) - 1)
def D0 (l3 : Di) (k : Int) : Nat → Int → Di → Option Di
  | 0, _k2, aa =>
  some aa
  | ab + 1, k2, aa =>
  ix aa k fun x =>
  ix x k2 fun x2 =>
  gd (Cn ((l3.length : Int) - 1)) <|
  gd (Cn (((l3.length : Int) - 1) - k)) <|
  ix l3 (((l3.length : Int) - 1) - k) fun x3 =>
  ix x3 k2 fun x4 =>
  gd (Cn (x2 * x4)) <|
  bv (aa.set (k : Int).toNat (x.set (k2 : Int).toNat (x2 * x4))) fun l4 =>
  D0 l3 k ab (k2 + 1) l4
def D4 (l3 : Di) : Nat → Int → Di → Option Di
  | 0, _k, aa =>
  some aa
  | ad + 1, k, aa =>
  b1 (gd (Cn 0 ∧ Cn 8) <|
  D0 l3 k (Int.toNat (8 - 0)) 0 aa) fun ab =>
  D4 l3 ad (k + 1) ab
def Fz (Af Ac : Int) (Ah : Cx) (Ab : List Int) (Ak : Cw) : Option Di :=
  b1 (Ik Af Ac Ah Ab Ak) fun l =>
  b1 (Cm Ab) fun l2 =>
  b1 (Gq l2) fun s_ =>
  b1 (Ik 0 0 [] s_ []) fun l3 =>
  b1 (gd (Cn 0 ∧ Cn (l.length : Int)) <|
  D4 l3 (Int.toNat ((l.length : Int) - 0)) 0 l) fun there =>
  some there
def HH (x : List Int) : Nat → Int → Int → Option Int
  | 0, _k, n3 =>
  some n3
  | aa + 1, k, n3 =>
  ix x k fun x2 =>
  gd (Cn (n3 + x2)) <|
  HH x aa (k + 1) (n3 + x2)
def KV (Af Ac : Int) (Ah : Cx) (Ab : List Int) (Ak : Cw) : Option (Int × Int) :=
  b2 (G9 Af Ac Ah Ab Ak) fun d n =>
  if n ≠ 0 then
  (some (0, n))
  else
  (b1 (b5 d fun AU ab ad aa ae =>
  b1 (Fz AU ab ad aa ae) fun l =>
  ix l 0 fun x =>
  gd (Cn 0 ∧ Cn 8) <|
  HH x (Int.toNat (8 - 0)) 0 0) fun n2 =>
  some (n2, 0))
def GO (x : List Int) : Nat → Int → (List Int) → Option (List Int)
  | 0, _k2, aa =>
  some aa
  | ad + 1, k2, aa =>
  ix x k2 fun x2 =>
  if 0 < x2 then
  (ap aa [k2] fun ab =>
  GO x ad (k2 + 1) ab)
  else
  (GO x ad (k2 + 1) aa)
def KB (aa : Di → Option (Di × Int)) (ab : Di) : Option (Di × Int) :=
  aa ab
def Kw (out : Di) : Option (Di × Int) :=
  some (out, 0)
def GL : Di → Di → Option (Di × Int)
  | [], aa =>
  Kw aa
  | x :: ad, aa =>
  b1 (gd (Cn 0 ∧ Cn 8) <|
  GO x (Int.toNat (8 - 0)) 0 []) fun own =>
  if (own.length : Int) = 0 then
  (some ([], 7))
  else
  (ap aa [own] fun ab =>
  KB (GL ad) ab)
def JI (Af Ac : Int) (Ah : Cx) (Ab : List Int) (Ak : Cw) : Option (Di × Int) :=
  b2 (G9 Af Ac Ah Ab Ak) fun d n =>
  if n ≠ 0 then
  (some ([], n))
  else
  (b5 d fun AU ab ad aa ae =>
  b1 (Fz AU ab ad aa ae) fun l =>
  GL l [])
def HI (aa : List Int) (k : Int) : List Int → Option (List Int)
  | [] =>
  some aa
  | x2 :: ad =>
  b1 (if k = 0 then
  (some true)
  else
  (gd (Cn (k - 1)) <|
  ix aa (k - 1) fun x3 =>
  b1 (JA x2 x3) fun ok =>
  some ok)) fun k3 =>
  if k3 = true then
  (ap aa [x2] fun ab =>
  some ab)
  else
  (HI aa k ad)
def HJ : Di → Int → (List Int) → Option (List Int)
  | [], _k, aa =>
  some aa
  | x :: ad, k, aa =>
  b1 (HI aa k x) fun ab =>
  HJ ad (k + 1) ab
def JK (Af Ac : Int) (Ah : Cx) (Ab : List Int) (Ak : Cw) : Option ((List Int) × Int) :=
  b2 (JI Af Ac Ah Ab Ak) fun l n =>
  if n ≠ 0 then
  (some ([], n))
  else
  (b1 (HJ l 0 []) fun out =>
  some (out, 0))
def BY (s2 : Di) (eq : ((List Int) × (List Int)) → Option Bool) : Di → Int → Option Unit
  | [], _k =>
  some ()
  | x :: aa, k =>
  ix s2 k fun x2 =>
  b1 (eq (x, x2)) fun ok =>
  gd ((!ok) = false) <|
  BY s2 eq aa (k + 1)
def Dm (s1 s2 : Di) (eq : ((List Int) × (List Int)) → Option Bool) : Option Bool :=
  gd (¬ ((s1.length : Int) ≠ (s2.length : Int))) <|
  b0 (BY s2 eq s1 0) <|
  some true
def C5 (a b : Di) : Option Bool :=
  b1 (Dm a b (fun aa : (List Int) × (List Int) => D8 aa.1 aa.2)) fun ok =>
  some ok
def FB (x : Int × Int × Int) : List Int → (List Bool) → Option (List Bool)
  | [], g5 =>
  some g5
  | x4 :: aa, g5 =>
  gd (0 ≤ x4 ∧ x4 < 6) <|
  gd (0 ≤ x.2.2 ∧ x.2.2 < 4) <|
  ix g5 (x4 * 4 + x.2.2) fun _x5 =>
  bv (g5.set (x4 * 4 + x.2.2 : Int).toNat true) fun l =>
  FB x aa l
def Fh (Ah : Cx) (hour FH : Int) : Cw → (List Bool) → Option (List Bool)
  | [], g3 =>
  some g3
  | x :: aa, g3 =>
  b1 (if x.1 ≠ hour then
  (some g3)
  else
  (ix Ah x.2.1 fun x2 =>
  ix x2 FH fun x3 =>
  FB x x3 g3)) fun g4 =>
  Fh Ah hour FH aa g4
def IB (_Af _Ac : Int) (Ah : Cx) (_Ab : List Int) (Ak : Cw) (g : List Bool) (hour FH : Int) : Option (List Bool) :=
  b1 (Fh Ah hour FH Ak g) fun g2 =>
  some g2
def Ch : Option Int :=
  some (-1)
def BE (f : ((List Bool) × (List Int)) → Option Bool) : List ((List Bool) × (List Int)) → Int → Option Int
  | [], _k =>
  Ch
  | x :: aa, k =>
  b1 (f (x.1, x.2)) fun ok =>
  if ok = true then
  (some k)
  else
  (BE f aa (k + 1))
def Cu (s_ : List ((List Bool) × (List Int))) (f : ((List Bool) × (List Int)) → Option Bool) : Option Int :=
  BE f s_ 0
def Cg (s_ : List ((List Bool) × (List Int))) (f : ((List Bool) × (List Int)) → Option Bool) : Option Bool :=
  b1 (Cu s_ f) fun n =>
  some (decide (0 ≤ n))
def FT (_FH : Int) (Pe : List Bool) (AW : List Int) (aa : Int) (x : (Int × Int) → Option Bool) (x2 Af Ac : Int) (Ah : Cx) (Ab : List Int) (Ak : Cw) (x3 : List ((Int × (List Bool)) × Bool)) (ab : List (Int × (List Bool) × (List Int))) : Option ((List ((Int × (List Bool)) × Bool)) × (List (Int × (List Bool) × (List Int)))) :=
  b1 (x (x2, aa)) fun ok =>
  if (!ok) = true then
  (some (x3, ab))
  else
  (b1 (IB Af Ac Ah Ab Ak Pe x2 aa) fun a =>
  gd (Cn aa) <|
  if (!((LU x3 (aa, a)).getD false)) = true then
  (gd (Cn aa) <|
  bv (M4 x3 (aa, a) true) fun met =>
  b1 (Cm AW) fun l =>
  ap l [aa] fun l2 =>
  ap ab [(aa, a, l2)] fun l3 =>
  some (met, l3))
  else
  (some (x3, ab)))
def FO (Pe : List Bool) (_AW : List Int) (_FH : Int) (ab : List Bool) (_aa : List Int) : Option Bool :=
  some (decide (Pe = ab))
def D9 (Af Ac : Int) (Ah : Cx) (Ab : List Int) (Ak : Cw) (k : Int) : Nat → Int → (List (Int × (List Bool) × (List Int))) → (List ((Int × (List Bool)) × Bool)) → Option ((List (Int × (List Bool) × (List Int))) × (List ((Int × (List Bool)) × Bool)))
  | 0, _k2, aa, m2 =>
  some (aa, m2)
  | ae + 1, k2, aa, m2 =>
  b2 (FT 0 (List.replicate 24 false) [] k2 (fun ad : Int × Int => EC Af Ac Ah Ab Ak ad.1 ad.2) k Af Ac Ah Ab Ak m2 aa) fun x2 ab =>
  D9 Af Ac Ah Ab Ak k ae (k2 + 1) ab x2
def DW (Af Ac : Int) (Ah : Cx) (Ab : List Int) (Ak : Cw) (k : Int) (x3 : Int × (List Bool) × (List Int)) : List Int → (List (Int × (List Bool) × (List Int))) → (List ((Int × (List Bool)) × Bool)) → Option ((List (Int × (List Bool) × (List Int))) × (List ((Int × (List Bool)) × Bool)))
  | [], aa, m5 =>
  some (aa, m5)
  | x4 :: ae, aa, m5 =>
  b2 (FT x3.1 x3.2.1 x3.2.2 x4 (fun ad : Int × Int => EC Af Ac Ah Ab Ak ad.1 ad.2) k Af Ac Ah Ab Ak m5 aa) fun x5 ab =>
  DW Af Ac Ah Ab Ak k x3 ae ab x5
def D3 (Af Ac : Int) (Ah : Cx) (Ab : List Int) (Ak : Cw) (k : Int) : List (Int × (List Bool) × (List Int)) → (List (Int × (List Bool) × (List Int))) → (List ((Int × (List Bool)) × Bool)) → Option (List (Int × (List Bool) × (List Int)))
  | [], aa, _m3 =>
  some aa
  | x3 :: ad, aa, m3 =>
  b2 (b1 (J8 x3.1) fun y =>
  DW Af Ac Ah Ab Ak k x3 y aa m3) fun ab m4 =>
  D3 Af Ac Ah Ab Ak k ad ab m4
def D6 (Af Ac : Int) (Ah : Cx) (Ab : List Int) (Ak : Cw) : List Int → Int → (List (Int × (List Bool) × (List Int))) → Option (List (Int × (List Bool) × (List Int)))
  | [], _k, aa =>
  some aa
  | _x :: ah, k, aa =>
  b1 (b2 (if k = 0 then
  (gd (Cn 0 ∧ Cn 8) <|
  D9 Af Ac Ah Ab Ak k (Int.toNat (8 - 0)) 0 [] [])
  else
  (some ([], []))) fun ab m =>
  b1 (D3 Af Ac Ah Ab Ak k aa ab m) fun ad =>
  some ad) fun ae =>
  D6 Af Ac Ah Ab Ak ah (k + 1) ae
def Dc : List (Int × (List Bool) × (List Int)) → (List ((List Bool) × (List Int))) → Option (List ((List Bool) × (List Int)))
  | [], aa =>
  some aa
  | x6 :: ad, aa =>
  b1 (Cg aa (fun ae : ((List Bool) × (List Int)) => FO ae.1 ae.2 x6.1 x6.2.1 x6.2.2)) fun ok =>
  if (!ok) = true then
  (ap aa [(x6.2.1, x6.2.2)] fun ab =>
  Dc ad ab)
  else
  (Dc ad aa)
def GZ (Af Ac : Int) (Ah : Cx) (Ab : List Int) (Ak : Cw) : Option (List ((List Bool) × (List Int))) :=
  b1 (D6 Af Ac Ah Ab Ak Ab 0 []) fun now =>
  b1 (Dc now []) fun out =>
  some out
def KJ (Af Ac : Int) (Ah : Cx) (Ab : List Int) (Ak : Cw) : Option ((Option (Int × Int × Cx × (List Int) × Cw)) × (List ((List Bool) × (List Int))) × Int) :=
  b2 (G9 Af Ac Ah Ab Ak) fun d n =>
  if n ≠ 0 then
  (some (none, [], n))
  else
  (b5 d fun AU ab ad aa ae =>
  b1 (GZ AU ab ad aa ae) fun l =>
  if (l.length : Int) = 0 then
  (some (none, [], 7))
  else
  (some (some (AU, ab, ad, aa, ae), l, 0)))
def EG (k k2 : Int) : List ((List Bool) × (List Int)) → Int → Option Int
  | [], aa =>
  some aa
  | x :: ab, aa =>
  gd (0 ≤ k ∧ k < 6) <|
  gd (0 ≤ k2 ∧ k2 < 4) <|
  ix x.1 (k * 4 + k2) fun x2 =>
  if x2 = true then
  (gd (Cn (aa + 1)) <|
  EG k k2 ab (aa + 1))
  else
  (EG k k2 ab aa)
def Ga (l : List ((List Bool) × (List Int))) (k : Int) : Nat → Int → Di → Option Di
  | 0, _k2, aa =>
  some aa
  | ae + 1, k2, aa =>
  b1 (b1 (EG k k2 l 0) fun many =>
  b1 (if many = (l.length : Int) then
  (some 1)
  else
  (if many = 0 then
  (some 2)
  else
  (some 0))) fun v =>
  ix aa k fun x3 =>
  ap x3 [v] fun l3 =>
  bv (aa.set (k : Int).toNat l3) fun ab =>
  some ab) fun ad =>
  Ga l k ae (k2 + 1) ad
def Gm (Ac : Int) (l : List ((List Bool) × (List Int))) : Nat → Int → Di → Option Di
  | 0, _k, aa =>
  some aa
  | ad + 1, k, aa =>
  b1 (gd (Cn 0 ∧ Cn Ac) <|
  Ga l k (Int.toNat (Ac - 0)) 0 aa) fun ab =>
  Gm Ac l ad (k + 1) ab
def I6 (Af Ac : Int) (Ah : Cx) (Ab : List Int) (Ak : Cw) : Option (Di × Int) :=
  b3 (KJ Af Ac Ah Ab Ak) fun _d l n =>
  if n ≠ 0 then
  (some ([], n))
  else
  (gd (0 ≤ Af ∧ Af ≤ 1048576) <|
  bv (List.replicate (Af : Int).toNat [] : Di) fun l2 =>
  b1 (gd (Cn 0 ∧ Cn (l2.length : Int)) <|
  Gm Ac l (Int.toNat ((l2.length : Int) - 0)) 0 l2) fun out =>
  some (out, 0))
def Hh (CY AP : Int) (_heard : Bool) (Af Ac : Int) (Ah : Cx) (Ab : List Int) (Ak : Cw) : Option Int :=
  b1 (b1 (HN Af Ac Ah Ab Ak CY) fun ok =>
  if (!ok) = true then
  (some true)
  else
  (b1 (FX Af Ac Ah Ab Ak AP) fun aa =>
  some (!aa))) fun k =>
  if k = true then
  (some 1)
  else
  (some 0)
def H2 : Option Int :=
  some 0
def EO (Af Ac : Int) (Ah : Cx) (Ab : List Int) (Ak : Cw) : List (Int × Int × Bool) → Option Int
  | [] =>
  H2
  | x :: aa =>
  b1 (Hh x.1 x.2.1 x.2.2 Af Ac Ah Ab Ak) fun n2 =>
  if n2 ≠ 0 then
  (some n2)
  else
  (EO Af Ac Ah Ab Ak aa)
def HW (Af Ac : Int) (Ah : Cx) (Ab : List Int) (Ak : Cw) (l : List (Int × Int × Bool)) : Option Int :=
  b1 (Ek Af Ac Ah Ab Ak) fun n =>
  if n ≠ 0 then
  (some n)
  else
  (if 8 < (l.length : Int) then
  (some 2)
  else
  (EO Af Ac Ah Ab Ak l))
def JM (Af Ac : Int) (Ah : Cx) (Ab : List Int) (Ak : Cw) (AN : List (Int × Int × Bool)) : Option ((List ((List Bool) × (List Int))) × Int) :=
  b1 (HW Af Ac Ah Ab Ak AN) fun n =>
  if n ≠ 0 then
  (some ([], n))
  else
  (b3 (KJ Af Ac Ah Ab Ak) fun _d l n2 =>
  some (l, n2))
def G4 (CY AP : Int) (heard : Bool) (g : List Bool) : Option Bool :=
  gd (0 ≤ CY ∧ CY < 6) <|
  gd (0 ≤ AP ∧ AP < 4) <|
  ix g (CY * 4 + AP) fun x =>
  some (decide (x = heard))
def GK (g : List Bool) : List (Int × Int × Bool) → Int → (List Int) → Option (List Int)
  | [], _k, aa =>
  some aa
  | x :: ad, k, aa =>
  b1 (G4 x.1 x.2.1 x.2.2 g) fun ok =>
  if (!ok) = true then
  (ap aa [k] fun ab =>
  GK g ad (k + 1) ab)
  else
  (GK g ad (k + 1) aa)
def IP (AN : List (Int × Int × Bool)) (g : List Bool) : Option (List Int) :=
  b1 (GK g AN 0 []) fun out =>
  some out
def Iv : Option (List Int) :=
  some []
def Fl (met : (List Bool) → Option Bool) : List ((List Bool) × (List Int)) → Option (List Int)
  | [] =>
  Iv
  | x :: aa =>
  b1 (met x.1) fun ok =>
  if ok = true then
  (gd (x.2 ≠ []) <|
  some x.2)
  else
  (Fl met aa)
def Hg (met : (List Bool) → Option Bool) (l : List ((List Bool) × (List Int))) : Option (List Int) :=
  Fl met l
def HO (g : List Bool) (AN : List (Int × Int × Bool)) : Option Bool :=
  b1 (IP AN g) fun l =>
  some (decide ((l.length : Int) = 0))
def I5 (Af Ac : Int) (Ah : Cx) (Ab : List Int) (Ak : Cw) (AN : List (Int × Int × Bool)) : Option ((List Int) × Int) :=
  b2 (JM Af Ac Ah Ab Ak AN) fun l n =>
  if n ≠ 0 then
  (some ([], n))
  else
  (b1 (Hg (fun aa : (List Bool) => HO aa AN) l) fun l2 =>
  if l2 = [] then
  (some ([], 6))
  else
  (some (l2, 0)))
def Iz (Af Ac : Int) (Ah : Cx) (Ab : List Int) (Ak : Cw) (CY AP : Int) (heard : Bool) : Option ((List Int) × Int) :=
  b2 (I5 Af Ac Ah Ab Ak [(CY, AP, heard)]) fun l n =>
  some (l, n)
def Jy (Af Ac : Int) (Ah : Cx) (Ab : List Int) (Ak : Cw) (CY AP : Int) (heard : Bool) : Option (Bool × Int) :=
  b2 (Iz Af Ac Ah Ab Ak CY AP heard) fun _l n =>
  if n = 0 then
  (some (false, 0))
  else
  (if n = 6 then
  (some (true, 0))
  else
  (some (false, n)))
def I4 (x : Int) : Option Bool :=
  some (decide (x ≠ x))
def Ji (x y : Int) : Option Int :=
  b1 (I4 x) fun ok =>
  b1 (I4 y) fun aa =>
  gd (ok = false) <|
  gd (aa = false) <|
  if x < y then
  (some (-1))
  else
  (if y < x then
  (some 1)
  else
  (some 0))
def E8 (s1 s2 : List Int) : Option Int :=
  gd (¬ ((s1.length : Int) < (s2.length : Int))) <|
  some 0
def CK (s1 s2 : List Int) : List Int → Int → Option Int
  | [], _k =>
  E8 s1 s2
  | x :: aa, k =>
  gd (¬ ((s2.length : Int) ≤ k)) <|
  ix s2 k fun x2 =>
  b1 (Ji x x2) fun n =>
  if n ≠ 0 then
  (some n)
  else
  (CK s1 s2 aa (k + 1))
def Gu (s1 s2 : List Int) : Option Int :=
  CK s1 s2 s1 0
def Gf (AN : List (Int × Int × Bool)) : List ((List Bool) × (List Int)) → (List Int) → Option (List Int)
  | [], aa =>
  some aa
  | x2 :: ab, aa =>
  b1 (IP AN x2.1) fun l4 =>
  b1 (if (l4.length : Int) < (aa.length : Int) then
  (some true)
  else
  (if (l4.length : Int) = (aa.length : Int) then
  (b1 (Gu l4 aa) fun n2 =>
  some (decide (n2 < 0)))
  else
  (some false))) fun k2 =>
  if k2 = true then
  (Gf AN ab l4)
  else
  (Gf AN ab aa)
def Kj (Af Ac : Int) (Ah : Cx) (Ab : List Int) (Ak : Cw) (AN : List (Int × Int × Bool)) : Option ((List Int) × Int) :=
  b2 (JM Af Ac Ah Ab Ak AN) fun l n =>
  if n ≠ 0 then
  (some ([], n))
  else
  (ix l 0 fun x =>
  b1 (IP AN x.1) fun l2 =>
  b1 (gd ((0 ≤ (1 : Int) ∧ (1 : Int) ≤ (l.length : Int)) ∧ (l.length : Int) ≤ l.length) <|
  bv (sl l 1 (l.length : Int)) fun l3 =>
  Gf AN l3 l2) fun aa =>
  some (aa, 0))
def CH (s_ : Cw) : Option Cw :=
  Oq (s_ = []) (some []) (ap ([] : Cw) s_ fun l =>
  some l)
def Ho (h : Int) (g : List Bool) (x : Int) : Option Bool :=
  gd (0 ≤ h ∧ h < 6) <|
  gd (0 ≤ x ∧ x < 4) <|
  ix g (h * 4 + x) fun x2 =>
  some x2
def Il (g : List Bool) (x : List Int) (x2 : Int) : Option Bool :=
  b1 (Ff x (fun aa : Int => Ho aa g x2)) fun ok =>
  some (!ok)
def Gb (hour AP : Int) : List Int → Cw → Option Cw
  | [], aa =>
  some aa
  | x :: ab, aa =>
  ap aa [(hour, x, AP)] fun l3 =>
  Gb hour AP ab l3
def IM (ab : List Int) (aa : Bool) : Option (Bool × (List Int) × Bool) :=
  some (false, ab, aa)
def FZ (l : List Int) (many Af Ac : Int) (Ah : Cx) (Ab : List Int) (Ak : Cw) (hour AP : Int) (AU : List Int) (ae : (List Int) → Int → Int → Int → Int → Cx → (List Int) → Cw → Int → Int → (List Int) → (List Int) → Bool → Option (Bool × (List Int) × Bool)) : Nat → Int → (List Int) → Bool → Option (Bool × (List Int) × Bool)
  | 0, _s_, ad, aa =>
  IM ad aa
  | ai + 1, s_, ad, aa =>
  gd (Cn (many - 1)) <|
  b1 (Cm l) fun l6 =>
  ap l6 [s_] fun l7 =>
  b3 (ae l7 (s_ + 1) (many - 1) Af Ac Ah Ab Ak hour AP AU ad aa) fun ok ah ab =>
  if ok = true then
  (some (true, ah, ab))
  else
  (FZ l many Af Ac Ah Ab Ak hour AP AU ae ai (s_ + 1) ah ab)
def IW (l : List Int) (from_ many Af Ac : Int) (Ah : Cx) (Ab : List Int) (Ak : Cw) (hour AP : Int) (AU out : List Int) (found : Bool) (aa : (List Int) → Int → Int → Int → Int → Cx → (List Int) → Cw → Int → Int → (List Int) → (List Int) → Bool → Option (Bool × (List Int) × Bool)) : Option (Bool × (List Int) × Bool) :=
  gd (Cn from_ ∧ Cn (Ah.length : Int)) <|
  FZ l many Af Ac Ah Ab Ak hour AP AU aa (Int.toNat ((Ah.length : Int) - from_)) from_ out found
def Ky (ab : (List Int) → Int → Int → Int → Int → Cx → (List Int) → Cw → Int → Int → (List Int) → (List Int) → Bool → Option (Bool × (List Int) × Bool)) (l : List Int) (from_ many Af Ac : Int) (Ah : Cx) (Ab : List Int) (Ak : Cw) (hour AP : Int) (AU out : List Int) (found : Bool) : Option (Bool × (List Int) × Bool) :=
  if many = 0 then
  (b1 (CH Ak) fun l2 =>
  b1 (Gb hour AP l l2) fun aa =>
  b1 (GZ Af Ac Ah Ab aa) fun l4 =>
  b1 (Hg (fun ad : (List Bool) => Il ad AU AP) l4) fun l5 =>
  if l5 = [] then
  (some (true, l, true))
  else
  (some (found, out, found)))
  else
  IW l from_ many Af Ac Ah Ab Ak hour AP AU out found ab
def Iw : Nat → (List Int) → Int → Int → Int → Int → Cx → (List Int) → Cw → Int → Int → (List Int) → (List Int) → Bool → Option (Bool × (List Int) × Bool)
  | 0, _, _, _, _, _, _, _, _, _, _, _, _, _ => none
  | fu + 1, l, from_, many, Af, Ac, Ah, Ab, Ak, hour, AP, AU, out, found =>
  Ky (Iw fu) l from_ many Af Ac Ah Ab Ak hour AP AU out found
def HB (Af Ac : Int) (Ah : Cx) (Ab : List Int) (Ak : Cw) (AP hour : Int) (AU : List Int) : Nat → Int → (List Int) → Bool → Option ((List Int) × Bool)
  | 0, _k2, ad, aa =>
  some (ad, aa)
  | ah + 1, k2, ad, aa =>
  b3 (Iw FU [] 0 k2 Af Ac Ah Ab Ak hour AP AU ad aa) fun ai ae ab =>
  if ai = true then
  (some (ae, ab))
  else
  (HB Af Ac Ah Ab Ak AP hour AU ah (k2 + 1) ae ab)
def K0 (Af Ac : Int) (Ah : Cx) (Ab : List Int) (Ak : Cw) (AP hour : Int) (AU : List Int) : Option ((List Int) × Int) :=
  b1 (Ek Af Ac Ah Ab Ak) fun n =>
  if n ≠ 0 then
  (some ([], n))
  else
  (b1 (b1 (FX Af Ac Ah Ab Ak AP) fun ok =>
  if (!ok) = true then
  (some true)
  else
  (b1 (FY Af Ac Ah Ab Ak hour) fun aa =>
  some (!aa))) fun k =>
  if k = true then
  (some ([], 1))
  else
  (b1 (Hk Af Ac Ah Ab Ak AU) fun n2 =>
  if n2 ≠ 0 then
  (some ([], n2))
  else
  (b3 (KJ Af Ac Ah Ab Ak) fun _d _l n3 =>
  if n3 ≠ 0 then
  (some ([], n3))
  else
  (b2 (gd (Cn ((Ah.length : Int) + 1)) <|
  gd (Cn 0 ∧ Cn ((Ah.length : Int) + 1)) <|
  HB Af Ac Ah Ab Ak AP hour AU (Int.toNat (((Ah.length : Int) + 1) - 0)) 0 [] false) fun out found =>
  if (!found) = true then
  (some ([], 6))
  else
  (some (out, 0))))))
def A7 (s2 : Di) (eq : ((List Int) × (List Int)) → Option Bool) : Di → Int → Option Unit
  | [], _k =>
  some ()
  | x :: aa, k =>
  ix s2 k fun x2 =>
  b1 (eq (x, x2)) fun ok =>
  gd ((!ok) = false) <|
  A7 s2 eq aa (k + 1)
def BA (s1 s2 : Di) (eq : ((List Int) × (List Int)) → Option Bool) : Option Bool :=
  gd (¬ ((s1.length : Int) ≠ (s2.length : Int))) <|
  b0 (A7 s2 eq s1 0) <|
  some true
def BH (s2 : List Int) : List Int → Int → Option Unit
  | [], _k =>
  some ()
  | x :: aa, k =>
  ix s2 k fun x2 =>
  gd (¬ (x ≠ x2)) <|
  BH s2 aa (k + 1)
def B5 (s1 s2 : List Int) : Option Bool :=
  gd (¬ ((s1.length : Int) ≠ (s2.length : Int))) <|
  b0 (BH s2 s1 0) <|
  some true
def FG (a b : Di) : Option Bool :=
  b1 (BA a b (fun aa : (List Int) × (List Int) => B5 aa.1 aa.2)) fun ok =>
  some ok
def Cc : Option Bool :=
  b5 (CT) fun n n2 l l2 l3 =>
  b2 (KV n n2 l l2 l3) fun n3 n4 =>
  b5 (CT) fun n5 n6 l4 l5 l6 =>
  b2 (JK n5 n6 l4 l5 l6) fun l7 n7 =>
  b5 (CT) fun n8 n9 l8 l9 aa =>
  b2 (I6 n8 n9 l8 l9 aa) fun ab ad =>
  b5 (CT) fun ae ah ai aj ak =>
  b2 (JI ae ah ai aj ak) fun al ao =>
  gd (¬ (n4 ≠ 0)) <|
  gd (¬ (n7 ≠ 0)) <|
  gd (¬ (ad ≠ 0)) <|
  gd (¬ (ao ≠ 0)) <|
  gd (¬ (n3 ≠ 4)) <|
  b1 (Bz l7 [1, 2, 3]) fun ok =>
  gd ((!ok) = false) <|
  b1 (FG ab [[0], [1]]) fun aq =>
  gd ((!aq) = false) <|
  b1 (C5 al [[1, 2], [2, 3], [3, 4]]) fun ar =>
  gd ((!ar) = false) <|
  b5 (CT) fun au av aw ax ay =>
  b2 (Kj au av aw ax ay [(0, 0, true), (0, 0, false)]) fun az ba =>
  b5 (CT) fun bb bc bd bg bh =>
  b2 (Jy bb bc bd bg bh 1 0 false) fun bj bk =>
  ix ([(0, 0, true), (0, 0, false)] : List (Int × Int × Bool)) 0 fun x =>
  b5 (CT) fun bl bm bn bo bp =>
  b2 (Iz bl bm bn bo bp x.1 x.2.1 x.2.2) fun bq br =>
  b5 (CT) fun bu bw bx bz cb =>
  b2 (K0 bu bw bx bz cb 0 1 [0]) fun _cj cc =>
  gd (ba = 0) <|
  gd (bk = 0) <|
  gd (br = 0) <|
  gd (cc = 6) <|
  gd (bj = true) <|
  b1 (Bz az [0]) fun cf =>
  gd (cf = true) <|
  b1 (Bz bq [1, 2, 3]) fun cg =>
  some cg
def Cl (f : (List Int) → Option Bool) : Di → Option Unit
  | [] =>
  some ()
  | x :: aa =>
  b1 (f x) fun ok =>
  gd (ok = false) <|
  Cl f aa
def EP (s_ : Di) (f : (List Int) → Option Bool) : Option Int :=
  b0 (Cl f s_) <|
  some (-1)
def D2 (s_ : Di) (f : (List Int) → Option Bool) : Option Bool :=
  b1 (EP s_ f) fun n =>
  some (decide (0 ≤ n))
def GU (l : List Int) : Option Bool :=
  some (decide (8 < (l.length : Int)))
def H4 (Ah : Cx) (Ab : List Int) (Ak : Cw) : Option Bool :=
  if 6 < (Ah.length : Int) then
  (some true)
  else
  (if 10 < (Ab.length : Int) then
  (some true)
  else
  (some (decide (14 < (Ak.length : Int)))))
def EK (Ah : Cx) (Ab : List Int) (Ak : Cw) : Cx → Option Bool
  | [] =>
  H4 Ah Ab Ak
  | x :: aa =>
  b1 (if 10 < (x.length : Int) then
  (some true)
  else
  (b1 (D2 x (fun ab : (List Int) => GU ab)) fun ok =>
  some ok)) fun k2 =>
  if k2 = true then
  (some true)
  else
  (EK Ah Ab Ak aa)
def Eg (_Af _Ac : Int) (Ah : Cx) (Ab : List Int) (Ak : Cw) : Option Bool :=
  EK Ah Ab Ak Ah
def Db (l : List Int) : Option (List Int) :=
  gd (0 ≤ (l.length : Int) ∧ (l.length : Int) ≤ 1048576) <|
  bv (List.replicate ((l.length : Int) : Int).toNat 0 : List Int) fun l2 =>
  bv (Sw l2 l) fun out =>
  some out
def C4 : Di → Int → Di → Option Di
  | [], _k, aa =>
  some aa
  | x :: ad, k, aa =>
  b1 (Db x) fun l3 =>
  ix aa k fun _x2 =>
  bv (aa.set (k : Int).toNat l3) fun ab =>
  C4 ad (k + 1) ab
def G7 (l : Di) : Option Di :=
  gd (0 ≤ (l.length : Int) ∧ (l.length : Int) ≤ 1048576) <|
  bv (List.replicate ((l.length : Int) : Int).toNat [] : Di) fun l2 =>
  b1 (C4 l 0 l2) fun out =>
  some out
def IZ (l : Cw) : Option Cw :=
  gd (0 ≤ (l.length : Int) ∧ (l.length : Int) ≤ 1048576) <|
  bv (List.replicate ((l.length : Int) : Int).toNat (0, 0, 0) : Cw) fun l2 =>
  bv (Sw l2 l) fun out =>
  some out
def Gn : Cx → Int → Cx → Option Cx
  | [], _k, aa =>
  some aa
  | x :: ad, k, aa =>
  b1 (G7 x) fun l2 =>
  ix aa k fun _x2 =>
  bv (aa.set (k : Int).toNat l2) fun ab =>
  Gn ad (k + 1) ab
def EA (Af Ac : Int) (Ah : Cx) (Ab : List Int) (Ak : Cw) : Option (Int × Int × Cx × (List Int) × Cw) :=
  gd (0 ≤ (Ah.length : Int) ∧ (Ah.length : Int) ≤ 1048576) <|
  bv (List.replicate ((Ah.length : Int) : Int).toNat [] : Cx) fun l =>
  b1 (Gn Ah 0 l) fun aa =>
  b1 (Db Ab) fun l3 =>
  b1 (IZ Ak) fun l4 =>
  some (Af, Ac, aa, l3, l4)
def Es : Cw → Cw → Option Cw
  | [], aa =>
  some aa
  | x :: ab, aa =>
  ap aa [(x.1, x.2.1, x.2.2)] fun out =>
  Es ab out
def Dd (Af Ac : Int) (Ah : Cx) (Ab : List Int) (Ak : Cw) : Option (Int × Int × Cx × (List Int) × Cw) :=
  b1 (Es Ak []) fun aa =>
  some (Af, Ac, Ah, Ab, aa)
def Cf (n lo hi : Int) : Option Bool :=
  if n < lo then
  (some true)
  else
  (some (decide (hi < n)))
def I1 : Option Bool :=
  some false
def Gh (n : Int) : List Int → Option Bool
  | [] =>
  I1
  | x :: aa =>
  if x = n then
  (some true)
  else
  (Gh n aa)
def I9 (l : List Int) (n : Int) : Option Bool :=
  Gh n l
def Ht : Option Int :=
  some 0
def El (Af : Int) (l : List Int) : List Int → Int → Option Int
  | [], _i =>
  Ht
  | x :: aa, i =>
  gd (Cn (Af - 1)) <|
  b1 (Cf x 0 (Af - 1)) fun ok =>
  if ok = true then
  (some 1)
  else
  (gd ((0 ≤ (0 : Int) ∧ (0 : Int) ≤ i) ∧ i ≤ l.length) <|
  bv (sl l 0 i) fun l2 =>
  b1 (I9 l2 x) fun ab =>
  if ab = true then
  (some 5)
  else
  (El Af l aa (i + 1)))
def Hq (Af _Ac : Int) (_Ah : Cx) (_Ab : List Int) (_Ak : Cw) (l : List Int) : Option Int :=
  El Af l l 0
def HX (aa : Option Int) : Option Int :=
  aa
def ER (Af Ac : Int) (Ah : Cx) (Ab : List Int) (Ak : Cw) (x2 : Di) (aa : Option Int) : Nat → Int → Option Int
  | 0, _w =>
  HX aa
  | ab + 1, w =>
  ix x2 w fun x3 =>
  b1 (Hq Af Ac Ah Ab Ak x3) fun n =>
  if n ≠ 0 then
  (some n)
  else
  (ER Af Ac Ah Ab Ak x2 aa ab (w + 1))
def H9 : Option Int :=
  some 0
def Ep (Ac : Int) (Ah : Cx) (Ab : List Int) : Cw → Option Int
  | [] =>
  H9
  | x5 :: aa =>
  b1 (gd (Cn ((Ab.length : Int) - 1)) <|
  b1 (Cf x5.1 0 ((Ab.length : Int) - 1)) fun ab =>
  if ab = true then
  (some true)
  else
  (gd (Cn ((Ah.length : Int) - 1)) <|
  b1 (Cf x5.2.1 0 ((Ah.length : Int) - 1)) fun ad =>
  if ad = true then
  (some true)
  else
  (gd (Cn (Ac - 1)) <|
  b1 (Cf x5.2.2 0 (Ac - 1)) fun ae =>
  some ae))) fun k2 =>
  if k2 = true then
  (some 1)
  else
  (Ep Ac Ah Ab aa)
def HZ (Ac : Int) (Ah : Cx) (Ab : List Int) (Ak : Cw) : Option Int :=
  Ep Ac Ah Ab Ak
def EW (Ac : Int) (Ah : Cx) (Ab : List Int) (Ak : Cw) : List Int → Option Int
  | [] =>
  HZ Ac Ah Ab Ak
  | x4 :: aa =>
  b1 (Cf x4 (-1) 7) fun ab =>
  if ab = true then
  (some 3)
  else
  (EW Ac Ah Ab Ak aa)
def Ic (Ac : Int) (Ah : Cx) (Ab : List Int) (Ak : Cw) : Option Int :=
  EW Ac Ah Ab Ak Ab
def CZ (Af Ac : Int) (Ah : Cx) (Ab : List Int) (Ak : Cw) : Cx → Option Int
  | [] =>
  Ic Ac Ah Ab Ak
  | x2 :: aa =>
  gd (Cn 0 ∧ Cn 8) <|
  ER Af Ac Ah Ab Ak x2 (CZ Af Ac Ah Ab Ak aa) (Int.toNat (8 - 0)) 0
def H5 (Af Ac : Int) (Ah : Cx) (Ab : List Int) (Ak : Cw) : Option Int :=
  CZ Af Ac Ah Ab Ak Ah
def EY (Af Ac : Int) (Ah : Cx) (Ab : List Int) (Ak : Cw) : Cx → Option Int
  | [] =>
  H5 Af Ac Ah Ab Ak
  | x :: aa =>
  if (x.length : Int) ≠ 8 then
  (some 2)
  else
  (EY Af Ac Ah Ab Ak aa)
def DA (Af Ac : Int) (Ah : Cx) (Ab : List Int) (Ak : Cw) : Option Int :=
  b1 (b1 (Cf Af 1 6) fun ok =>
  if ok = true then
  (some true)
  else
  (b1 (Cf Ac 1 4) fun aa =>
  if aa = true then
  (some true)
  else
  (b1 (Cf (Ah.length : Int) 1 4) fun ab =>
  gd (ab = false) <|
  b1 (Cf (Ab.length : Int) 1 8) fun ad =>
  gd (ad = false) <|
  some (decide (12 < (Ak.length : Int)))))) fun k =>
  if k = true then
  (some 2)
  else
  (EY Af Ac Ah Ab Ak Ah)
def IC : Di → Di → Option Di
  | [], aa =>
  some aa
  | x2 :: ad, aa =>
  b1 (Cm x2) fun l3 =>
  ap aa [l3] fun ab =>
  IC ad ab
def Iu : Cx → Cx → Option Cx
  | [], aa =>
  some aa
  | x :: ad, aa =>
  b1 (b1 (IC x []) fun own =>
  ap aa [own] fun out =>
  some out) fun ab =>
  Iu ad ab
def Np (Af Ac : Int) (Ah : Cx) (Ab : List Int) (Ak : Cw) (hour ED : Int) : Option (Int × Int × Cx × (List Int) × Cw × Int) :=
  b1 (Ek Af Ac Ah Ab Ak) fun n =>
  if n ≠ 0 then
  (some (0, 0, [], [], [], n))
  else
  (b1 (FY Af Ac Ah Ab Ak hour) fun ok =>
  if (!ok) = true then
  (some (0, 0, [], [], [], 1))
  else
  (b1 (KI ED) fun ae =>
  if (!ae) = true then
  (some (0, 0, [], [], [], 3))
  else
  (gd (0 ≤ (Ab.length : Int) ∧ (Ab.length : Int) ≤ 1048576) <|
  b1 (CH Ak) fun l =>
  bv (List.replicate (Int.toNat (Ab.length : Int)) 0 : List Int) fun l2 =>
  b1 (Iu Ah []) fun aa =>
  bv (Sw l2 Ab) fun ab =>
  ix ab hour fun _x3 =>
  bv (ab.set (hour : Int).toNat ED) fun ad =>
  some (Af, Ac, aa, ad, l, 0))))
def B3 (s2 : Cw) : Cw → Int → Option Unit
  | [], _k =>
  some ()
  | x :: aa, k =>
  ix s2 k fun x2 =>
  gd (¬ (¬ (x.1 = x2.1 ∧ x.2.1 = x2.2.1 ∧ x.2.2 = x2.2.2))) <|
  B3 s2 aa (k + 1)
def DL (s1 s2 : Cw) : Option Bool :=
  gd (¬ ((s1.length : Int) ≠ (s2.length : Int))) <|
  b0 (B3 s2 s1 0) <|
  some true
def IN (a b : Cw) : Option Bool :=
  b1 (DL a b) fun ok =>
  some ok
def BV (s2 : Cx) (eq : (Di × Di) → Option Bool) : Cx → Int → Option Unit
  | [], _k =>
  some ()
  | x :: aa, k =>
  ix s2 k fun x2 =>
  b1 (eq (x, x2)) fun ok =>
  gd ((!ok) = false) <|
  BV s2 eq aa (k + 1)
def Dg (s1 s2 : Cx) (eq : (Di × Di) → Option Bool) : Option Bool :=
  gd (¬ ((s1.length : Int) ≠ (s2.length : Int))) <|
  b0 (BV s2 eq s1 0) <|
  some true
def D5 (Af Ac : Int) (Ah : Cx) (Ab : List Int) (Ak : Cw) (AU ab : Int) (ad : Cx) (aa : List Int) (ae : Cw) : Option Bool :=
  gd (Af = AU) <|
  gd (Ac = ab) <|
  b1 (Bz Ab aa) fun ok =>
  gd (ok = true) <|
  b1 (IN Ak ae) fun ai =>
  gd (ai = true) <|
  b1 (Dg Ah ad (fun ah : Di × Di => C5 ah.1 ah.2)) fun aj =>
  some aj
def C7 (aa : Cx) (k3 : Int) : Nat → Int → Di → Option Cx
  | 0, _k4, ab =>
  bv (aa.set (k3 : Int).toNat ab) fun u2 =>
  some u2
  | ad + 1, k4, ab =>
  ix ab k4 fun x3 =>
  bv (List.replicate x3.length 0 : List Int) fun ae =>
  bv (ab.set (k4 : Int).toNat ae) fun ah =>
  C7 aa k3 ad (k4 + 1) ah
def C8 : Nat → Int → Cx → Option Cx
  | 0, _k3, aa =>
  some aa
  | ad + 1, k3, aa =>
  b1 (ix aa k3 fun x2 =>
  gd (Cn 0 ∧ Cn (x2.length : Int)) <|
  C7 aa k3 (Int.toNat ((x2.length : Int) - 0)) 0 x2) fun ab =>
  C8 ad (k3 + 1) ab
def BJ (Af Ac : Int) (Ah : Cx) (Ab : List Int) (Ak : Cw) (hour ED : Int) : Option Bool :=
  b1 (Eg Af Ac Ah Ab Ak) fun ok =>
  if ok = true then
  (b1 (Cc) fun ak =>
  some ak)
  else
  (b5 (EA Af Ac Ah Ab Ak) fun n n2 l l2 l3 =>
  b5 (Dd Af Ac Ah Ab Ak) fun n3 n4 l4 l5 l6 =>
  b1 (DA n3 n4 l4 l5 l6) fun n5 =>
  b1 (Ek n n2 l l2 l3) fun n6 =>
  gd (¬ (n6 ≠ n5)) <|
  b6 (Np n n2 l l2 l3 hour ED) fun n7 n8 l7 l8 l9 n9 =>
  b6 (if n5 ≠ 0 then
  (some (n5, 0, 0, [], [], []))
  else
  (b1 (if hour < 0 then
  (some true)
  else
  (some (decide ((Ab.length : Int) ≤ hour)))) fun k =>
  if k = true then
  (some (1, 0, 0, [], [], []))
  else
  (b1 (if ED < (-1) then
  (some true)
  else
  (some (decide (8 ≤ ED)))) fun k2 =>
  if k2 = true then
  (some (3, 0, 0, [], [], []))
  else
  (b5 (EA Af Ac Ah Ab Ak) fun al ao aq aj ar =>
  ix aj hour fun _x =>
  bv (aj.set (hour : Int).toNat ED) fun want =>
  some (n5, al, ao, aq, want, ar))))) fun w ad ab ae aa ah =>
  gd (¬ (n9 ≠ w)) <|
  b1 (D5 n7 n8 l7 l8 l9 ad ab ae aa ah) fun au =>
  gd ((!au) = false) <|
  b1 (gd (Cn 0 ∧ Cn (l7.length : Int)) <|
  C8 (Int.toNat ((l7.length : Int) - 0)) 0 l7) fun _ai =>
  bv (List.replicate l8.length 0 : List Int) fun _u3 =>
  bv (List.replicate l9.length (0, 0, 0) : Cw) fun _u4 =>
  b1 (D5 n n2 l l2 l3 Af Ac Ah Ab Ak) fun av =>
  gd (av = true) <|
  b1 (Cc) fun aw =>
  some aw)
def EV (a b : Int) : Option Bool :=
  if a = b then
  (some true)
  else
  (gd (Cn (b + 1)) <|
  if a = (b + 1) then
  (some true)
  else
  (gd (Cn (a + 1)) <|
  if b = (a + 1) then
  (some true)
  else
  (if a = 0 then
  (if b = 7 then
  (some true)
  else
  (if a = 7 then
  (some (decide (b = 0)))
  else
  (some false)))
  else
  (if a = 7 then
  (some (decide (b = 0)))
  else
  (some false)))))
def Ee (ab : List Int) (w : Int) : Nat → Int → (List Int) → Option (List Int)
  | 0, _v, aa =>
  some aa
  | ad + 1, v, aa =>
  b1 (EV v w) fun ae =>
  if ae = true then
  (ix aa w fun x3 =>
  ix ab v fun x4 =>
  gd (Cn (x3 + x4)) <|
  bv (aa.set (w : Int).toNat (x3 + x4)) fun l3 =>
  Ee ab w ad (v + 1) l3)
  else
  (Ee ab w ad (v + 1) aa)
def Fv (ah : List Int) (h x : Int) : Nat → Int → (List Int) → Option (List Int)
  | 0, _w, aa =>
  some aa
  | ai + 1, w, aa =>
  b1 (b1 (if 0 ≤ x then
  (b1 (EV w x) fun ok =>
  some (!ok))
  else
  (some false)) fun k =>
  if k = true then
  (some aa)
  else
  (b1 (if h = 0 then
  (ix aa w fun _x2 =>
  bv (aa.set (w : Int).toNat 1) fun ab =>
  some ab)
  else
  (some aa)) fun ad =>
  gd (Cn 0 ∧ Cn 8) <|
  Ee ah w (Int.toNat (8 - 0)) 0 ad)) fun ae =>
  Fv ah h x ai (w + 1) ae
def Fu : List Int → Int → (List Int) → Option (List Int)
  | [], _h, aa =>
  some aa
  | x :: ae, h, aa =>
  b1 (gd (0 ≤ (8 : Int) ∧ (8 : Int) ≤ 1048576) <|
  bv (List.replicate (8 : Int).toNat 0 : List Int) fun l2 =>
  b1 (gd (Cn 0 ∧ Cn 8) <|
  Fv aa h x (Int.toNat (8 - 0)) 0 l2) fun ab =>
  some ab) fun ad =>
  Fu ae (h + 1) ad
def Fj (now : List Int) : Nat → Int → Int → Option Int
  | 0, _w2, n2 =>
  some n2
  | aa + 1, w2, n2 =>
  ix now w2 fun x5 =>
  gd (Cn (n2 + x5)) <|
  Fj now aa (w2 + 1) (n2 + x5)
def JH (_Af _Ac : Int) (_Ah : Cx) (Ab : List Int) (_Ak : Cw) : Option Int :=
  gd (0 ≤ (8 : Int) ∧ (8 : Int) ≤ 1048576) <|
  bv (List.replicate (8 : Int).toNat 0 : List Int) fun l =>
  b1 (Fu Ab 0 l) fun now =>
  b1 (gd (Cn 0 ∧ Cn 8) <|
  Fj now (Int.toNat (8 - 0)) 0 0) fun n =>
  some n
def FV (Af Ac : Int) (Ah : Cx) (Ab : List Int) (Ak : Cw) (aa : Int) : Option Bool :=
  b5 (Dd Af Ac Ah Ab Ak) fun n n2 l l2 l3 =>
  b1 (DA n n2 l l2 l3) fun n3 =>
  if n3 = 0 then
  (b1 (JH n n2 l l2 l3) fun n4 =>
  some (decide (aa < n4)))
  else
  (some false)
def Hx : Option Int :=
  some 0
def Em : List Int → Option Int
  | [] =>
  Hx
  | x :: aa =>
  b1 (Cf x 0 7) fun ok =>
  if ok = true then
  (some 3)
  else
  (Em aa)
def EF (_Af _Ac : Int) (_Ah : Cx) (Ab : List Int) (_Ak : Cw) (AW : List Int) : Option Int :=
  if (AW.length : Int) ≠ (Ab.length : Int) then
  (some 2)
  else
  (Em AW)
def I7 (w : Int) : Option Bool :=
  b1 (HT w 0 7) fun ok =>
  some ok
def Jd (Af Ac : Int) (Ah : Cx) (Ab : List Int) (Ak : Cw) (l : List Int) : Option ((Option (Int × Int × Cx × (List Int) × Cw)) × Int) :=
  b2 (G9 Af Ac Ah Ab Ak) fun d n =>
  if n ≠ 0 then
  (some (none, n))
  else
  (if (l.length : Int) ≠ (Ab.length : Int) then
  (some (none, 2))
  else
  (b1 (Ff l (fun aa : Int => I7 aa)) fun ok =>
  if (!ok) = true then
  (some (none, 3))
  else
  (some (d, 0))))
def KS : Option (Bool × Int) :=
  some (true, 0)
def Io (l : List Int) (d : Option (Int × Int × Cx × (List Int) × Cw)) : List Int → Int → Option (Bool × Int)
  | [], _k =>
  KS
  | x :: ah, k =>
  b1 (b5 d fun AU ab ad aa ae =>
  b1 (EC AU ab ad aa ae k x) fun ok =>
  if (!ok) = true then
  (some true)
  else
  (if 0 < k then
  (gd (Cn (k - 1)) <|
  ix l (k - 1) fun x2 =>
  b1 (JA x x2) fun ai =>
  some (!ai))
  else
  (some false))) fun k2 =>
  if k2 = true then
  (some (false, 0))
  else
  (Io l d ah (k + 1))
def Ng (Af Ac : Int) (Ah : Cx) (Ab : List Int) (Ak : Cw) (l : List Int) : Option (Bool × Int) :=
  b2 (Jd Af Ac Ah Ab Ak l) fun d n =>
  if n ≠ 0 then
  (some (false, n))
  else
  (Io l d l 0)
def Ip : Option Bool :=
  some true
def Fq (Ab AW : List Int) : List Int → Int → Option Bool
  | [], _h =>
  Ip
  | x :: aa, h =>
  b1 (ix Ab h fun x2 =>
  if 0 ≤ x2 then
  (b1 (EV x x2) fun ok =>
  if (!ok) = true then
  (some true)
  else
  (if 0 < h then
  (gd (Cn (h - 1)) <|
  ix AW (h - 1) fun x3 =>
  b1 (EV x x3) fun ab =>
  some (!ab))
  else
  (some false)))
  else
  (if 0 < h then
  (gd (Cn (h - 1)) <|
  ix AW (h - 1) fun x4 =>
  b1 (EV x x4) fun ad =>
  some (!ad))
  else
  (some false))) fun k =>
  if k = true then
  (some false)
  else
  (Fq Ab AW aa (h + 1))
def Hc (_Af _Ac : Int) (_Ah : Cx) (Ab : List Int) (_Ak : Cw) (AW : List Int) : Option Bool :=
  Fq Ab AW AW 0
def Ed (Af Ac : Int) (Ah : Cx) (Ab : List Int) (Ak : Cw) (begun : List Int) (ab : Int → Int → Cx → (List Int) → Cw → (List Int) → Option (Di)) : Nat → Int → Di → Option Di
  | 0, _w, aa =>
  some aa
  | ae + 1, w, aa =>
  ap ([] : List Int) begun fun l =>
  ap l [w] fun l2 =>
  b1 (Hc Af Ac Ah Ab Ak l2) fun ok =>
  if ok = true then
  (b1 (ab Af Ac Ah Ab Ak l2) fun l3 =>
  ap aa l3 fun ad =>
  Ed Af Ac Ah Ab Ak begun ab ae (w + 1) ad)
  else
  (Ed Af Ac Ah Ab Ak begun ab ae (w + 1) aa)
def JV (aa : Int → Int → Cx → (List Int) → Cw → (List Int) → Option (Di)) (Af Ac : Int) (Ah : Cx) (Ab : List Int) (Ak : Cw) (begun : List Int) : Option Di :=
  if (begun.length : Int) = (Ab.length : Int) then
  (some [begun])
  else
  (b1 (gd (Cn 0 ∧ Cn 8) <|
  Ed Af Ac Ah Ab Ak begun aa (Int.toNat (8 - 0)) 0 []) fun out =>
  some out)
def Ey : Nat → Int → Int → Cx → (List Int) → Cw → (List Int) → Option Di
  | 0, _, _, _, _, _, _ => none
  | fu + 1, Af, Ac, Ah, Ab, Ak, begun =>
  JV (Ey fu) Af Ac Ah Ab Ak begun
def EJ (hour : Int) : Di → (List Int) → Option (List Int)
  | [], aa =>
  some aa
  | x :: ab, aa =>
  ix x hour fun x2 =>
  ix aa x2 fun x3 =>
  gd (Cn (x3 + 1)) <|
  bv (aa.set (x2 : Int).toNat (x3 + 1)) fun l2 =>
  EJ hour ab l2
def HS (BT : Di) (hour : Int) : Option (List Int) :=
  gd (0 ≤ (8 : Int) ∧ (8 : Int) ≤ 1048576) <|
  bv (List.replicate (8 : Int).toNat 0 : List Int) fun l =>
  b1 (EJ hour BT l) fun out =>
  some out
def Mo (Af Ac : Int) (Ah : Cx) (Ab : List Int) (Ak : Cw) (hour : Int) : Option ((List Int) × Int) :=
  b2 (G9 Af Ac Ah Ab Ak) fun d n =>
  if n ≠ 0 then
  (some ([], n))
  else
  (b1 (FY Af Ac Ah Ab Ak hour) fun ok =>
  if (!ok) = true then
  (some ([], 1))
  else
  (b5 d fun AU ab ad aa ae =>
  b1 (Fz AU ab ad aa ae) fun l =>
  ix l hour fun x =>
  b1 (Cm x) fun l2 =>
  some (l2, 0)))
def Cr : List Int → Int → (List Int) → Option (List Int)
  | [], _k5, aa =>
  some aa
  | x3 :: ad, k5, aa =>
  if 0 < x3 then
  (ap aa [k5] fun ab =>
  Cr ad (k5 + 1) ab)
  else
  (Cr ad (k5 + 1) aa)
def CU (BT : Di) : Di → Int → Option Unit
  | [], _k4 =>
  some ()
  | x2 :: ab, k4 =>
  b0 (b1 (b1 (HS BT k4) fun ad =>
  Cr ad 0 []) fun want =>
  b1 (Bz x2 want) fun aa =>
  gd ((!aa) = false) <|
  some ()) <|
  CU BT ab (k4 + 1)
def CQ (Af Ac : Int) (Ah : Cx) (Ab : List Int) (Ak : Cw) (AW : List Int) (hour : Int) : Option Bool :=
  b1 (Eg Af Ac Ah Ab Ak) fun ok =>
  gd (ok = false) <|
  b1 (FV Af Ac Ah Ab Ak 1500) fun ai =>
  gd (ai = false) <|
  gd (¬ (12 < (AW.length : Int))) <|
  b5 (EA Af Ac Ah Ab Ak) fun n n2 l l2 l3 =>
  b1 (Db AW) fun l4 =>
  b5 (Dd Af Ac Ah Ab Ak) fun n3 n4 l5 l6 l7 =>
  b1 (DA n3 n4 l5 l6 l7) fun n5 =>
  b1 (if n5 = 0 then
  (b1 (EF n3 n4 l5 l6 l7 AW) fun n6 =>
  some n6)
  else
  (some n5)) fun v =>
  b2 (Ng n n2 l l2 l3 l4) fun ah n7 =>
  b1 (gd (¬ (n7 ≠ v)) <|
  if v = 0 then
  (b1 (Hc n3 n4 l5 l6 l7 AW) fun aj =>
  gd (¬ (ah ≠ aj)) <|
  b1 (Bz l4 AW) fun ak =>
  some (!ak))
  else
  (gd (¬ (ah ≠ false)) <|
  b1 (Bz l4 AW) fun al =>
  some (!al))) fun k =>
  gd (k = false) <|
  b1 (if n5 = 0 then
  (b1 (Ey FU n3 n4 l5 l6 l7 []) fun l8 =>
  some l8)
  else
  (some [])) fun BT =>
  b2 (KV n n2 l l2 l3) fun n8 n9 =>
  gd (¬ (n9 ≠ n5)) <|
  gd (¬ (n8 ≠ (BT.length : Int))) <|
  b2 (if n5 = 0 then
  (b1 (if 0 ≤ hour then
  (some (decide (hour < (Ab.length : Int))))
  else
  (some false)) fun k2 =>
  if k2 = true then
  (b1 (HS BT hour) fun l9 =>
  some (0, l9))
  else
  (some (1, [])))
  else
  (some (n5, []))) fun v2 split =>
  b2 (Mo n n2 l l2 l3 hour) fun ao aq =>
  gd (¬ (aq ≠ v2)) <|
  b1 (Bz ao split) fun ar =>
  gd ((!ar) = false) <|
  b1 (b1 (if n5 = 0 then
  (some (decide ((BT.length : Int) = 0)))
  else
  (some false)) fun k3 =>
  if k3 = true then
  (some 7)
  else
  (some n5)) fun w =>
  b2 (JK n n2 l l2 l3) fun ab au =>
  b2 (JI n n2 l l2 l3) fun aa av =>
  gd (¬ (au ≠ w)) <|
  gd (¬ (av ≠ w)) <|
  b1 (D5 n n2 l l2 l3 Af Ac Ah Ab Ak) fun aw =>
  gd ((!aw) = false) <|
  if w ≠ 0 then
  (gd (Cn ((ab.length : Int) + (aa.length : Int))) <|
  gd (((ab.length : Int) + (aa.length : Int)) = 0) <|
  b1 (Cc) fun ax =>
  some ax)
  else
  (ix BT 0 fun x =>
  b1 (Bz ab x) fun ad =>
  gd ((!ad) = false) <|
  gd (¬ ((aa.length : Int) ≠ (Ab.length : Int))) <|
  b0 (CU BT aa 0) <|
  b1 (Cc) fun ae =>
  some ae)
def Jh : Option Bool :=
  some false
def GD (Ah : Cx) (AW : List Int) (CY AP : Int) : Cw → Option Bool
  | [] =>
  Jh
  | x :: aa =>
  b1 (if x.2.2 = AP then
  (ix Ah x.2.1 fun x2 =>
  ix AW x.1 fun x3 =>
  ix x2 x3 fun x4 =>
  b1 (I9 x4 CY) fun ok =>
  some ok)
  else
  (some false)) fun k =>
  if k = true then
  (some true)
  else
  (GD Ah AW CY AP aa)
def Hn (_Af _Ac : Int) (Ah : Cx) (_Ab : List Int) (Ak : Cw) (AW : List Int) (CY AP : Int) : Option Bool :=
  GD Ah AW CY AP Ak
def DS (Af Ac : Int) (Ah : Cx) (Ab : List Int) (Ak : Cw) (AW : List Int) (h : Int) : Nat → Int → Di → Option Di
  | 0, _n, aa =>
  some aa
  | ad + 1, n, aa =>
  b1 (Hn Af Ac Ah Ab Ak AW h n) fun ok =>
  if ok = true then
  (ix aa h fun x =>
  ap x [n] fun l2 =>
  bv (aa.set (h : Int).toNat l2) fun ab =>
  DS Af Ac Ah Ab Ak AW h ad (n + 1) ab)
  else
  (DS Af Ac Ah Ab Ak AW h ad (n + 1) aa)
def EM (Af Ac : Int) (Ah : Cx) (Ab : List Int) (Ak : Cw) (AW : List Int) : Nat → Int → Di → Option Di
  | 0, _h, aa =>
  some aa
  | ad + 1, h, aa =>
  b1 (gd (Cn 0 ∧ Cn Ac) <|
  DS Af Ac Ah Ab Ak AW h (Int.toNat (Ac - 0)) 0 aa) fun ab =>
  EM Af Ac Ah Ab Ak AW ad (h + 1) ab
def Jk (Af Ac : Int) (Ah : Cx) (Ab : List Int) (Ak : Cw) (AW : List Int) : Option Di :=
  gd (0 ≤ Af ∧ Af ≤ 1048576) <|
  bv (List.replicate (Af : Int).toNat [] : Di) fun l =>
  b1 (gd (Cn 0 ∧ Cn Af) <|
  EM Af Ac Ah Ab Ak AW (Int.toNat (Af - 0)) 0 l) fun out =>
  some out
def ET (Af Ac : Int) (Ah : Cx) (Ab : List Int) (Ak : Cw) : List Int → Int → (List Bool) → Option (List Bool)
  | [], _k, g2 =>
  some g2
  | x :: aa, k, g2 =>
  b1 (IB Af Ac Ah Ab Ak g2 k x) fun a =>
  ET Af Ac Ah Ab Ak aa (k + 1) a
def HV (Af Ac : Int) (Ah : Cx) (Ab : List Int) (Ak : Cw) (AW : List Int) : Option (List Bool) :=
  b1 (ET Af Ac Ah Ab Ak AW 0 (List.replicate 24 false)) fun g =>
  some g
def GN (a : List Bool) (k : Int) : Nat → Int → Di → Option Di
  | 0, _k2, aa =>
  some aa
  | ad + 1, k2, aa =>
  gd (0 ≤ k ∧ k < 6) <|
  gd (0 ≤ k2 ∧ k2 < 4) <|
  ix a (k * 4 + k2) fun x =>
  if x = true then
  (ix aa k fun x2 =>
  ap x2 [k2] fun l3 =>
  bv (aa.set (k : Int).toNat l3) fun ab =>
  GN a k ad (k2 + 1) ab)
  else
  (GN a k ad (k2 + 1) aa)
def HC (Ac : Int) (a : List Bool) : Nat → Int → Di → Option Di
  | 0, _k, aa =>
  some aa
  | ad + 1, k, aa =>
  b1 (gd (Cn 0 ∧ Cn Ac) <|
  GN a k (Int.toNat (Ac - 0)) 0 aa) fun ab =>
  HC Ac a ad (k + 1) ab
def Mu (Af Ac : Int) (Ah : Cx) (Ab : List Int) (Ak : Cw) (l : List Int) : Option (Di × Int) :=
  b2 (Jd Af Ac Ah Ab Ak l) fun d n =>
  if n ≠ 0 then
  (some ([], n))
  else
  (b5 d fun AU ab ad aa ae =>
  b1 (HV AU ab ad aa ae l) fun a =>
  gd (0 ≤ Af ∧ Af ≤ 1048576) <|
  bv (List.replicate (Af : Int).toNat [] : Di) fun l2 =>
  b1 (gd (Cn 0 ∧ Cn (l2.length : Int)) <|
  HC Ac a (Int.toNat ((l2.length : Int) - 0)) 0 l2) fun out =>
  some (out, 0))
def CR (Af Ac : Int) (Ah : Cx) (Ab : List Int) (Ak : Cw) (h n : Int) : Di → Int → Option Int
  | [], aa =>
  some aa
  | x :: ab, aa =>
  b1 (Hn Af Ac Ah Ab Ak x h n) fun ok =>
  if ok = true then
  (gd (Cn (aa + 1)) <|
  CR Af Ac Ah Ab Ak h n ab (aa + 1))
  else
  (CR Af Ac Ah Ab Ak h n ab aa)
def DE (Af Ac : Int) (Ah : Cx) (Ab : List Int) (Ak : Cw) (BT : Di) (h : Int) : Nat → Int → Di → Option Di
  | 0, _n, aa =>
  some aa
  | ae + 1, n, aa =>
  b1 (b1 (CR Af Ac Ah Ab Ak h n BT 0) fun many =>
  b1 (if many = 0 then
  (some 2)
  else
  (some 0)) fun v =>
  b1 (if many = (BT.length : Int) then
  (some 1)
  else
  (some v)) fun v2 =>
  ix aa h fun x2 =>
  ap x2 [v2] fun l2 =>
  bv (aa.set (h : Int).toNat l2) fun ab =>
  some ab) fun ad =>
  DE Af Ac Ah Ab Ak BT h ae (n + 1) ad
def DK (Af Ac : Int) (Ah : Cx) (Ab : List Int) (Ak : Cw) (BT : Di) : Nat → Int → Di → Option Di
  | 0, _h, aa =>
  some aa
  | ad + 1, h, aa =>
  b1 (gd (Cn 0 ∧ Cn Ac) <|
  DE Af Ac Ah Ab Ak BT h (Int.toNat (Ac - 0)) 0 aa) fun ab =>
  DK Af Ac Ah Ab Ak BT ad (h + 1) ab
def H3 (Af Ac : Int) (Ah : Cx) (Ab : List Int) (Ak : Cw) (BT : Di) : Option Di :=
  gd (0 ≤ Af ∧ Af ≤ 1048576) <|
  bv (List.replicate (Af : Int).toNat [] : Di) fun l =>
  b1 (gd (Cn 0 ∧ Cn Af) <|
  DK Af Ac Ah Ab Ak BT (Int.toNat (Af - 0)) 0 l) fun out =>
  some out
def Dn (x2 : List Int) : List Int → Int → Option Unit
  | [], _k2 =>
  some ()
  | x3 :: aa, k2 =>
  ix x2 k2 fun x4 =>
  gd (¬ (x3 ≠ x4)) <|
  Dn x2 aa (k2 + 1)
def Dp (want : Di) : Di → Int → Option Unit
  | [], _k =>
  some ()
  | x :: aa, k =>
  b0 (ix want k fun x2 =>
  gd (¬ ((x.length : Int) ≠ (x2.length : Int))) <|
  Dn x2 x 0) <|
  Dp want aa (k + 1)
def FN (Af Ac : Int) (Ah : Cx) (Ab : List Int) (Ak : Cw) (AW : List Int) : Option Bool :=
  b1 (Eg Af Ac Ah Ab Ak) fun ok =>
  gd (ok = false) <|
  b1 (FV Af Ac Ah Ab Ak 1500) fun ae =>
  gd (ae = false) <|
  gd (¬ (12 < (AW.length : Int))) <|
  b5 (EA Af Ac Ah Ab Ak) fun n n2 l l2 l3 =>
  b1 (Db AW) fun l4 =>
  b5 (Dd Af Ac Ah Ab Ak) fun n3 n4 l5 l6 l7 =>
  b1 (DA n3 n4 l5 l6 l7) fun n5 =>
  b3 (if n5 = 0 then
  (b1 (EF n3 n4 l5 l6 l7 AW) fun n6 =>
  if n6 = 0 then
  (b1 (Jk n3 n4 l5 l6 l7 AW) fun l8 =>
  some (l7, n6, l8))
  else
  (some (l7, n6, [])))
  else
  (some (l7, n5, []))) fun aa v heard =>
  b2 (Mu n n2 l l2 l3 l4) fun l9 n7 =>
  gd (¬ (n7 ≠ v)) <|
  b1 (C5 l9 heard) fun ah =>
  gd ((!ah) = false) <|
  b1 (Bz l4 AW) fun ai =>
  gd ((!ai) = false) <|
  b2 (if n5 = 0 then
  (b1 (Ey FU n3 n4 l5 l6 aa []) fun ab =>
  b1 (H3 n3 n4 l5 l6 aa ab) fun aj =>
  if (ab.length : Int) = 0 then
  (some (7, []))
  else
  (some (n5, aj)))
  else
  (some (n5, []))) fun w want =>
  b2 (I6 n n2 l l2 l3) fun ad n8 =>
  gd (¬ (n8 ≠ w)) <|
  gd (¬ ((ad.length : Int) ≠ (want.length : Int))) <|
  b1 (D5 n n2 l l2 l3 Af Ac Ah Ab Ak) fun ak =>
  gd ((!ak) = false) <|
  b0 (Dp want ad 0) <|
  b1 (Cc) fun al =>
  some al
def Gw (l : List (Int × Int × Bool)) : Option (List (Int × Int × Bool)) :=
  gd (0 ≤ (l.length : Int) ∧ (l.length : Int) ≤ 1048576) <|
  bv (List.replicate ((l.length : Int) : Int).toNat (0, 0, false) : List (Int × Int × Bool)) fun l2 =>
  bv (Sw l2 l) fun out =>
  some out
def Fx : List (Int × Int × Bool) → (List (Int × Int × Bool)) → Option (List (Int × Int × Bool))
  | [], aa =>
  some aa
  | x :: ad, aa =>
  ap aa [(x.1, x.2.1, x.2.2)] fun ab =>
  Fx ad ab
def JO (l : List (Int × Int × Bool)) : Option (List (Int × Int × Bool)) :=
  b1 (Fx l []) fun out =>
  some out
def Gi : Option Int :=
  some 0
def De (Af Ac : Int) : List (Int × Int × Bool) → Option Int
  | [] =>
  Gi
  | x :: aa =>
  b1 (gd (Cn (Af - 1)) <|
  b1 (Cf x.1 0 (Af - 1)) fun ok =>
  if ok = true then
  (some true)
  else
  (gd (Cn (Ac - 1)) <|
  b1 (Cf x.2.1 0 (Ac - 1)) fun ab =>
  some ab)) fun k =>
  if k = true then
  (some 1)
  else
  (De Af Ac aa)
def Fy (Af Ac : Int) (_Ah : Cx) (_Ab : List Int) (_Ak : Cw) (l : List (Int × Int × Bool)) : Option Int :=
  if 8 < (l.length : Int) then
  (some 2)
  else
  (De Af Ac l)
def DQ (Af Ac : Int) (Ah : Cx) (Ab : List Int) (Ak : Cw) (AW : List Int) : List (Int × Int × Bool) → Int → (List Int) → Option (List Int)
  | [], _i, aa =>
  some aa
  | x :: ad, i, aa =>
  b1 (Hn Af Ac Ah Ab Ak AW x.1 x.2.1) fun ok =>
  if ok ≠ x.2.2 then
  (ap aa [i] fun ab =>
  DQ Af Ac Ah Ab Ak AW ad (i + 1) ab)
  else
  (DQ Af Ac Ah Ab Ak AW ad (i + 1) aa)
def Fg (Af Ac : Int) (Ah : Cx) (Ab : List Int) (Ak : Cw) (l : List (Int × Int × Bool)) (AW : List Int) : Option (List Int) :=
  b1 (DQ Af Ac Ah Ab Ak AW l 0 []) fun out =>
  some out
def Mw (Af Ac : Int) (Ah : Cx) (Ab : List Int) (Ak : Cw) (AN : List (Int × Int × Bool)) (l : List Int) : Option ((List Int) × Int) :=
  b1 (HW Af Ac Ah Ab Ak AN) fun n =>
  if n ≠ 0 then
  (some ([], n))
  else
  (b2 (Jd Af Ac Ah Ab Ak l) fun d n2 =>
  if n2 ≠ 0 then
  (some ([], n2))
  else
  (b5 d fun AU ab ad aa ae =>
  b1 (HV AU ab ad aa ae l) fun a =>
  b1 (IP AN a) fun l2 =>
  some (l2, 0)))
def GS : Option Bool :=
  some false
def DF (Af Ac : Int) (Ah : Cx) (Ab : List Int) (Ak : Cw) (l : List (Int × Int × Bool)) : Di → Option Bool
  | [] =>
  GS
  | x :: aa =>
  b1 (Fg Af Ac Ah Ab Ak l x) fun l2 =>
  if (l2.length : Int) = 0 then
  (some true)
  else
  (DF Af Ac Ah Ab Ak l aa)
def Gs (Af Ac : Int) (Ah : Cx) (Ab : List Int) (Ak : Cw) (l : List (Int × Int × Bool)) (BT : Di) : Option Bool :=
  DF Af Ac Ah Ab Ak l BT
def E9 (Af Ac : Int) (Ah : Cx) (Ab : List Int) (Ak : Cw) (l : List (Int × Int × Bool)) (AW : List Int) : Option Bool :=
  b1 (EF Af Ac Ah Ab Ak AW) fun n =>
  gd (n = 0) <|
  b1 (Hc Af Ac Ah Ab Ak AW) fun ok =>
  gd (ok = true) <|
  b1 (Fg Af Ac Ah Ab Ak l AW) fun l2 =>
  some (decide ((l2.length : Int) = 0))
def Hw : Option Bool :=
  some false
def Et (b : List Int) : List Int → Int → Option Bool
  | [], _i =>
  Hw
  | x :: aa, i =>
  ix b i fun x2 =>
  if x ≠ x2 then
  (some (decide (x < x2)))
  else
  (Et b aa (i + 1))
def Ge (a b : List Int) : Option Bool :=
  if (a.length : Int) ≠ (b.length : Int) then
  (some (decide ((a.length : Int) < (b.length : Int))))
  else
  (Et b a 0)
def Dx (Af Ac : Int) (Ah : Cx) (Ab : List Int) (Ak : Cw) (l : List (Int × Int × Bool)) : Di → Int → (List Int) → Option (List Int)
  | [], _i, aa =>
  some aa
  | x :: ab, i, aa =>
  b1 (Fg Af Ac Ah Ab Ak l x) fun l2 =>
  b1 (if i = 0 then
  (some true)
  else
  (b1 (Ge l2 aa) fun ok =>
  some ok)) fun k =>
  if k = true then
  (Dx Af Ac Ah Ab Ak l ab (i + 1) l2)
  else
  (Dx Af Ac Ah Ab Ak l ab (i + 1) aa)
def IL (Af Ac : Int) (Ah : Cx) (Ab : List Int) (Ak : Cw) (l : List (Int × Int × Bool)) (BT : Di) : Option (List Int) :=
  b1 (Dx Af Ac Ah Ab Ak l BT 0 []) fun aa =>
  some aa
def Dz : Nat → Int → Int → (List Int) → Option (List Int)
  | 0, _i, _n2, aa =>
  some aa
  | ad + 1, i, n2, aa =>
  if (Int.tmod n2 2) = 1 then
  (ap aa [i] fun ab =>
  gd ((2 : Int) ≠ 0 ∧ Cn (Int.tdiv n2 2)) <|
  Dz ad (i + 1) (Int.tdiv n2 2) ab)
  else
  (gd ((2 : Int) ≠ 0 ∧ Cn (Int.tdiv n2 2)) <|
  Dz ad (i + 1) (Int.tdiv n2 2) aa)
def Hm (n many : Int) : Option (List Int) :=
  b1 (gd (Cn 0 ∧ Cn many) <|
  Dz (Int.toNat (many - 0)) 0 n []) fun out =>
  some out
def DG (l : List (Int × Int × Bool)) : List Int → (List (Int × Int × Bool)) → Option (List (Int × Int × Bool))
  | [], aa =>
  some aa
  | x :: ad, aa =>
  ix l x fun x2 =>
  ap aa [(x2.1, x2.2.1, x2.2.2)] fun ab =>
  DG l ad ab
def DH (Af Ac : Int) (Ah : Cx) (Ab : List Int) (Ak : Cw) (l : List (Int × Int × Bool)) (BT : Di) : Nat → (List Int) → Bool → Int → Option ((List Int) × Bool)
  | 0, _, _, _ => none
  | ah + 1, ab, aa, n =>
  gd ((0 ≤ ((l.length : Int) : Int) ∧ ((l.length : Int) : Int) < 64) ∧ Cn (shl 1 (l.length : Int))) <|
  if n < (shl 1 (l.length : Int)) then
  (b2 (b1 (Hm n (l.length : Int)) fun l2 =>
  b1 (if aa = true then
  (b1 (Ge l2 ab) fun ok =>
  some (!ok))
  else
  (some false)) fun k =>
  if k = true then
  (some (ab, aa))
  else
  (b1 (DG l l2 []) fun some_ =>
  b1 (Gs Af Ac Ah Ab Ak some_ BT) fun ai =>
  if (!ai) = true then
  (some (l2, true))
  else
  (some (ab, aa)))) fun ae ad =>
  gd (Cn (n + 1)) <|
  DH Af Ac Ah Ab Ak l BT ah ae ad (n + 1))
  else
  (some (ab, aa))
def Ia (Af Ac : Int) (Ah : Cx) (Ab : List Int) (Ak : Cw) (l : List (Int × Int × Bool)) (BT : Di) : Option ((List Int) × Bool) :=
  b2 (DH Af Ac Ah Ab Ak l BT FU [] false 0) fun aa found =>
  some (aa, found)
def B2 : Option Int :=
  some (-1)
def Bt (f : (Int × Int × Bool) → Option Bool) : List (Int × Int × Bool) → Int → Option Int
  | [], _k =>
  B2
  | x :: aa, k =>
  b1 (f (x.1, x.2.1, x.2.2)) fun ok =>
  if ok = true then
  (some k)
  else
  (Bt f aa (k + 1))
def B8 (s_ : List (Int × Int × Bool)) (f : (Int × Int × Bool) → Option Bool) : Option Int :=
  Bt f s_ 0
def B1 (s_ : List (Int × Int × Bool)) (f : (Int × Int × Bool) → Option Bool) : Option Bool :=
  b1 (B8 s_ f) fun n =>
  some (decide (0 ≤ n))
def FR (i : Int) (x : List (Int × Int × Bool)) (g : List Bool) : Option Bool :=
  ix x i fun x2 =>
  b1 (G4 x2.1 x2.2.1 x2.2.2 g) fun ok =>
  some ok
def GY (g : List Bool) (own : List Int) (x : List (Int × Int × Bool)) : Option Bool :=
  b1 (Ff own (fun aa : Int => FR aa x g)) fun ok =>
  some ok
def G1 (CY AP : Int) (heard : Bool) (x : List (Int × Int × Bool)) (i : Int) : Option Bool :=
  ix x i fun x2 =>
  gd (Cn CY) <|
  gd (Cn AP) <|
  gd (Cn x2.1) <|
  gd (Cn x2.2.1) <|
  some (decide ((CY, AP, heard) = (x2.1, x2.2.1, x2.2.2)))
def FP (i : Int) (aa : Int → Option (List Int)) : Option (List Int) :=
  gd (Cn (i + 1)) <|
  aa (i + 1)
def Hv : Option (List Int) :=
  some []
def CN (own : List Int) (from_ many : Int) (AN : List (Int × Int × Bool)) (l : List ((List Bool) × (List Int))) (ab : (List Int) → Int → Int → (List (Int × Int × Bool)) → (List ((List Bool) × (List Int))) → Option ((List Int))) : Nat → Int → Option (List Int)
  | 0, _ => none
  | ae + 1, i =>
  if i < (AN.length : Int) then
  (gd ((0 ≤ from_ ∧ from_ ≤ i) ∧ i ≤ AN.length) <|
  bv (sl AN from_ i) fun aa =>
  b1 (B1 aa (fun ad : (Int × Int × Bool) => G1 ad.1 ad.2.1 ad.2.2 AN i)) fun ok =>
  if ok = true then
  FP i (CN own from_ many AN l ab ae)
  else
  (gd (Cn (i + 1)) <|
  gd (Cn (many - 1)) <|
  b1 (Cm own) fun l3 =>
  ap l3 [i] fun l4 =>
  b1 (ab l4 (i + 1) (many - 1) AN l) fun l5 =>
  if l5 ≠ [] then
  (some l5)
  else
  FP i (CN own from_ many AN l ab ae)))
  else
  Hv
def IX (aa : (List Int) → Int → Int → (List (Int × Int × Bool)) → (List ((List Bool) × (List Int))) → Option ((List Int))) (own : List Int) (from_ many : Int) (AN : List (Int × Int × Bool)) (l : List ((List Bool) × (List Int))) : Option (List Int) :=
  if many = 0 then
  (b1 (Hg (fun ab : (List Bool) => GY ab own AN) l) fun l2 =>
  if l2 = [] then
  (gd (own ≠ []) <|
  some own)
  else
  (some []))
  else
  (CN own from_ many AN l aa FU from_)
def GB : Nat → (List Int) → Int → Int → (List (Int × Int × Bool)) → (List ((List Bool) × (List Int))) → Option (List Int)
  | 0, _, _, _, _, _ => none
  | fu + 1, own, from_, many, AN, l =>
  IX (GB fu) own from_ many AN l
def IS : Option ((List Int) × Int) :=
  some ([], 6)
def Gj (AN : List (Int × Int × Bool)) (l : List ((List Bool) × (List Int))) : Nat → Int → Option ((List Int) × Int)
  | 0, _ => none
  | aa + 1, many =>
  if many ≤ (AN.length : Int) then
  (b1 (GB FU [] 0 many AN l) fun l2 =>
  if l2 ≠ [] then
  (some (l2, 0))
  else
  (gd (Cn (many + 1)) <|
  Gj AN l aa (many + 1)))
  else
  IS
def KD (Af Ac : Int) (Ah : Cx) (Ab : List Int) (Ak : Cw) (AN : List (Int × Int × Bool)) : Option ((List Int) × Int) :=
  b2 (JM Af Ac Ah Ab Ak AN) fun l n =>
  if n ≠ 0 then
  (some ([], n))
  else
  (Gj AN l FU 1)
def BC (s2 : List (Int × Int × Bool)) : List (Int × Int × Bool) → Int → Option Unit
  | [], _k =>
  some ()
  | x :: aa, k =>
  ix s2 k fun x2 =>
  gd (Cn x.1) <|
  gd (Cn x.2.1) <|
  gd (Cn x2.1) <|
  gd (Cn x2.2.1) <|
  gd (¬ ((x.1, x.2.1, x.2.2) ≠ (x2.1, x2.2.1, x2.2.2))) <|
  BC s2 aa (k + 1)
def Cp (s1 s2 : List (Int × Int × Bool)) : Option Bool :=
  gd (¬ ((s1.length : Int) ≠ (s2.length : Int))) <|
  b0 (BC s2 s1 0) <|
  some true
def Gz (a b : List (Int × Int × Bool)) : Option Bool :=
  b1 (Cp a b) fun ok =>
  some ok
def Dw (n n2 : Int) (l2 : Cx) (l3 : List Int) (l4 : Cw) (n3 n4 : Int) (l7 : Cx) (l8 : List Int) (ab : List (Int × Int × Bool)) (n5 : Int) (aa : Cw) (BT : Di) : List (Int × Int × Bool) → Int → Option (Cx × (List Int) × Cw × (List (Int × Int × Bool)))
  | [], _k =>
  some (l2, l3, l4, ab)
  | x :: ao, k =>
  if 1 < k then
  (some (l2, l3, l4, ab))
  else
  (b1 (if n5 = 0 then
  (gd ((0 ≤ k ∧ k ≤ (k + 1)) ∧ (k + 1) ≤ ab.length) <|
  bv (sl ab k (k + 1)) fun ad =>
  b1 (Fy n3 n4 l7 l8 aa ad) fun n9 =>
  some n9)
  else
  (some n5)) fun t =>
  b1 (b1 (if t = 0 then
  (some (decide ((BT.length : Int) = 0)))
  else
  (some false)) fun k2 =>
  if k2 = true then
  (some 7)
  else
  (some t)) fun t2 =>
  b1 (if t2 = 0 then
  (gd ((0 ≤ k ∧ k ≤ (k + 1)) ∧ (k + 1) ≤ ab.length) <|
  bv (sl ab k (k + 1)) fun ae =>
  b1 (Gs n3 n4 l7 l8 aa ae BT) fun aq =>
  some aq)
  else
  (some false)) fun can =>
  b2 (Jy n n2 l2 l3 l4 x.1 x.2.1 x.2.2) fun al ar =>
  b1 (gd (¬ (ar ≠ t2)) <|
  if t2 = 0 then
  (some (decide (al ≠ (!can))))
  else
  (some (decide (al ≠ false)))) fun k3 =>
  gd (k3 = false) <|
  b1 (b1 (if t2 = 0 then
  (some (!can))
  else
  (some false)) fun k4 =>
  if k4 = true then
  (some 6)
  else
  (some t2)) fun t3 =>
  b2 (Iz n n2 l2 l3 l4 x.1 x.2.1 x.2.2) fun ak aj =>
  b1 (gd (¬ (aj ≠ t3)) <|
  if aj ≠ 0 then
  (gd (¬ (0 < (ak.length : Int))) <|
  if aj = 0 then
  (gd ((0 ≤ k ∧ k ≤ (k + 1)) ∧ (k + 1) ≤ ab.length) <|
  bv (sl ab k (k + 1)) fun ah =>
  b1 (E9 n3 n4 l7 l8 aa ah ak) fun au =>
  some (!au))
  else
  (some false))
  else
  (if aj = 0 then
  (gd ((0 ≤ k ∧ k ≤ (k + 1)) ∧ (k + 1) ≤ ab.length) <|
  bv (sl ab k (k + 1)) fun ai =>
  b1 (E9 n3 n4 l7 l8 aa ai ak) fun av =>
  some (!av))
  else
  (some false))) fun k5 =>
  gd (k5 = false) <|
  Dw n n2 l2 l3 l4 n3 n4 l7 l8 ab n5 aa BT ao (k + 1))
def Cs (Af Ac : Int) (Ah : Cx) (Ab : List Int) (Ak : Cw) (l : List (Int × Int × Bool)) (AW : List Int) : Option Bool :=
  b1 (Eg Af Ac Ah Ab Ak) fun ok =>
  gd (ok = false) <|
  b1 (FV Af Ac Ah Ab Ak 500) fun ba =>
  gd (ba = false) <|
  gd (¬ (12 < (AW.length : Int))) <|
  if 10 < (l.length : Int) then
  (b1 (Cc) fun bb =>
  some bb)
  else
  (b5 (EA Af Ac Ah Ab Ak) fun n n2 l2 l3 l4 =>
  b1 (Gw l) fun l5 =>
  b1 (Db AW) fun l6 =>
  b5 (Dd Af Ac Ah Ab Ak) fun n3 n4 l7 l8 l9 =>
  b1 (JO l) fun aj =>
  b1 (DA n3 n4 l7 l8 l9) fun n5 =>
  b1 (if n5 = 0 then
  (b1 (Fy n3 n4 l7 l8 l9 aj) fun n6 =>
  some n6)
  else
  (some n5)) fun u =>
  b2 (if u = 0 then
  (b1 (EF n3 n4 l7 l8 l9 AW) fun n7 =>
  if n7 = 0 then
  (b1 (Fg n3 n4 l7 l8 l9 aj AW) fun bc =>
  some (n7, bc))
  else
  (some (n7, [])))
  else
  (some (u, []))) fun v ah =>
  b2 (Mw n n2 l2 l3 l4 l5 l6) fun bd n8 =>
  gd (¬ (n8 ≠ v)) <|
  b1 (Bz bd ah) fun bg =>
  gd ((!bg) = false) <|
  b1 (Bz l6 AW) fun bh =>
  gd ((!bh) = false) <|
  b2 (if n5 = 0 then
  (b1 (Ey FU n3 n4 l7 l8 l9 []) fun bj =>
  some (l9, bj))
  else
  (some (l9, []))) fun ae BT =>
  b4 (Dw n n2 l2 l3 l4 n3 n4 l7 l8 aj n5 ae BT l 0) fun ab aa ad y =>
  b1 (b1 (if u = 0 then
  (some (decide ((BT.length : Int) = 0)))
  else
  (some false)) fun k6 =>
  if k6 = true then
  (some 7)
  else
  (some u)) fun u2 =>
  b3 (if u2 = 0 then
  (b1 (IL n3 n4 l7 l8 ae y BT) fun ay =>
  b2 (Ia n3 n4 l7 l8 ae y BT) fun az ak =>
  if ak = true then
  (some (ay, az, 6))
  else
  (some (ay, az, u2)))
  else
  (some ([], [], u2))) fun bk some_ t4 =>
  b2 (I5 n n2 ab aa ad l5) fun al ai =>
  b1 (gd (¬ (ai ≠ t4)) <|
  if ai ≠ 0 then
  (gd (¬ (0 < (al.length : Int))) <|
  if ai = 0 then
  (b1 (E9 n3 n4 l7 l8 ae y al) fun ao =>
  some (!ao))
  else
  (some false))
  else
  (if ai = 0 then
  (b1 (E9 n3 n4 l7 l8 ae y al) fun aq =>
  some (!aq))
  else
  (some false))) fun k7 =>
  gd (k7 = false) <|
  b1 (b1 (if u2 = 0 then
  (some (decide ((some_.length : Int) = 0)))
  else
  (some false)) fun k8 =>
  if k8 = true then
  (some 6)
  else
  (some u2)) fun t5 =>
  b2 (Kj n n2 ab aa ad l5) fun bl bm =>
  b2 (KD n n2 ab aa ad l5) fun bn bo =>
  gd (bm = u2) <|
  gd (bo = t5) <|
  b1 (Bz bl bk) fun ar =>
  gd (ar = true) <|
  b1 (Bz bn some_) fun au =>
  gd (au = true) <|
  b1 (D5 n n2 ab aa ad Af Ac Ah Ab Ak) fun av =>
  gd (av = true) <|
  b1 (Gz l5 l) fun aw =>
  gd (aw = true) <|
  b1 (Cc) fun ax =>
  some ax)
def EX (AP hour : Int) : List Int → Cw → Option Cw
  | [], aa =>
  some aa
  | x :: ab, aa =>
  ap aa [(hour, x, AP)] fun l3 =>
  EX AP hour ab l3
def DN (Af Ac : Int) (Ah : Cx) (Ab : List Int) (AP : Int) (aa : Cw) (x2 : List Int) : List Int → Bool → Option Bool
  | [], ab =>
  some ab
  | x3 :: ad, ab =>
  if ab = true then
  (b1 (Hn Af Ac Ah Ab aa x2 x3 AP) fun ae =>
  DN Af Ac Ah Ab AP aa x2 ad ae)
  else
  (DN Af Ac Ah Ab AP aa x2 ad false)
def EZ (Af Ac : Int) (Ah : Cx) (Ab : List Int) (AP : Int) (AU : List Int) (aa : Cw) : Di → Bool → Option Bool
  | [], ab =>
  some ab
  | x2 :: ae, ab =>
  b1 (DN Af Ac Ah Ab AP aa x2 AU ab) fun ad =>
  EZ Af Ac Ah Ab AP AU aa ae ad
def ES (Af Ac : Int) (Ah : Cx) (Ab : List Int) (Ak : Cw) (AP hour : Int) (AU : List Int) (BT : Di) : Nat → (List Int) → Bool → Int → Option ((List Int) × Bool)
  | 0, _, _, _ => none
  | ai + 1, ab, aa, n =>
  gd ((0 ≤ ((Ah.length : Int) : Int) ∧ ((Ah.length : Int) : Int) < 64) ∧ Cn (shl 1 (Ah.length : Int))) <|
  if n < (shl 1 (Ah.length : Int)) then
  (b2 (b1 (Hm n (Ah.length : Int)) fun l =>
  b1 (if aa = true then
  (b1 (Ge l ab) fun ok =>
  some (!ok))
  else
  (some false)) fun k =>
  if k = true then
  (some (ab, aa))
  else
  (ap ([] : Cw) Ak fun l2 =>
  b1 (EX AP hour l l2) fun ad =>
  b1 (EZ Af Ac Ah Ab AP AU ad BT true) fun sure =>
  if sure = true then
  (some (l, true))
  else
  (some (ab, aa)))) fun ah ae =>
  gd (Cn (n + 1)) <|
  ES Af Ac Ah Ab Ak AP hour AU BT ai ah ae (n + 1))
  else
  (some (ab, aa))
def Jn (Af Ac : Int) (Ah : Cx) (Ab : List Int) (Ak : Cw) (AP hour : Int) (AU : List Int) (BT : Di) : Option ((List Int) × Int) :=
  b2 (ES Af Ac Ah Ab Ak AP hour AU BT FU [] false 0) fun aa found =>
  if (!found) = true then
  (some ([], 6))
  else
  (some (aa, 0))
def Eu (Af Ac : Int) (Ah : Cx) (Ab : List Int) (Ak : Cw) (AP hour : Int) (AU : List Int) : Option Bool :=
  b1 (Eg Af Ac Ah Ab Ak) fun ok =>
  gd (ok = false) <|
  b1 (FV Af Ac Ah Ab Ak 500) fun aa =>
  gd (aa = false) <|
  gd (¬ (8 < (AU.length : Int))) <|
  b5 (EA Af Ac Ah Ab Ak) fun n n2 l l2 l3 =>
  b1 (Db AU) fun l4 =>
  b5 (Dd Af Ac Ah Ab Ak) fun n3 n4 l5 l6 l7 =>
  b1 (DA n3 n4 l5 l6 l7) fun n5 =>
  b1 (b1 (if n5 = 0 then
  (if AP < 0 then
  (some true)
  else
  (if Ac ≤ AP then
  (some true)
  else
  (if hour < 0 then
  (some true)
  else
  (some (decide ((Ab.length : Int) ≤ hour))))))
  else
  (some false)) fun k =>
  if k = true then
  (some 1)
  else
  (some n5)) fun w =>
  b1 (if w = 0 then
  (b1 (Hq n3 n4 l5 l6 l7 AU) fun n6 =>
  some n6)
  else
  (some w)) fun w2 =>
  b2 (if w2 = 0 then
  (b1 (Ey FU n3 n4 l5 l6 l7 []) fun l8 =>
  if 0 < (l8.length : Int) then
  (b2 (Jn n3 n4 l5 l6 l7 AP hour AU l8) fun l9 n7 =>
  some (n7, l9))
  else
  (some (7, [])))
  else
  (some (w2, []))) fun w3 want =>
  b2 (K0 n n2 l l2 l3 AP hour l4) fun ab n8 =>
  gd (n8 = w3) <|
  b1 (Bz ab want) fun ad =>
  gd (ad = true) <|
  b1 (D5 n n2 l l2 l3 Af Ac Ah Ab Ak) fun ae =>
  gd (ae = true) <|
  b1 (Bz l4 AU) fun ah =>
  gd (ah = true) <|
  b1 (Cc) fun ai =>
  some ai
def JW (Af Ac : Int) (Ah : Cx) (Ab : List Int) (Ak : Cw) (n : Int) : Option Bool :=
  b2 (JK Af Ac Ah Ab Ak) fun l _n2 =>
  b1 (b1 (if 0 < (l.length : Int) then
  (some (decide ((Int.tmod n 3) = 0)))
  else
  (some false)) fun k =>
  if k = true then
  (gd ((l.length : Int) ≠ 0) <|
  ix l (Int.tmod n (l.length : Int)) fun _x =>
  bv (l.set (Int.tmod n (l.length : Int) : Int).toNat (Int.tmod n 8)) fun l3 =>
  some l3)
  else
  (some l)) fun l2 =>
  gd (Cn (1 - (Int.tmod n 2))) <|
  gd (Cn ((Int.tmod n 9) - 1)) <|
  b1 (BJ Af Ac Ah Ab Ak (Int.tmod n 3) ((Int.tmod n 9) - 1)) fun ok =>
  gd (ok = true) <|
  b1 (CQ Af Ac Ah Ab Ak l2 (Int.tmod n 3)) fun aa =>
  gd (aa = true) <|
  b1 (FN Af Ac Ah Ab Ak l2) fun ab =>
  gd (ab = true) <|
  gd ((0 ≤ (0 : Int) ∧ (0 : Int) ≤ (Int.tmod n 4)) ∧ (Int.tmod n 4) ≤ [(Int.tmod n 2, 0, decide (0 < (Int.tmod n 3))), (1 - (Int.tmod n 2), Int.tmod n 2, decide (0 < (Int.tmod n 2))), (Int.tmod n 2, 0, decide ((Int.tmod n 3) = 0))].length) <|
  bv (sl [(Int.tmod n 2, 0, decide (0 < (Int.tmod n 3))), (1 - (Int.tmod n 2), Int.tmod n 2, decide (0 < (Int.tmod n 2))), (Int.tmod n 2, 0, decide ((Int.tmod n 3) = 0))] 0 (Int.tmod n 4)) fun l4 =>
  b1 (Cs Af Ac Ah Ab Ak l4 l2) fun ad =>
  gd (ad = true) <|
  gd (Cn (1 - (Int.tmod n 2))) <|
  gd ((0 ≤ (0 : Int) ∧ (0 : Int) ≤ (Int.tmod n 3)) ∧ (Int.tmod n 3) ≤ [Int.tmod n 2, 1 - (Int.tmod n 2)].length) <|
  bv (sl [Int.tmod n 2, 1 - (Int.tmod n 2)] 0 (Int.tmod n 3)) fun l5 =>
  b1 (Eu Af Ac Ah Ab Ak (Int.tmod n 2) (Int.tmod n 3) l5) fun ae =>
  some ae
def Jj (x y : Int) : Option (Int × Int) :=
  bv (((N9 64 x 4294967295) * (N9 64 y 4294967295)) % 18446744073709551616) fun w0 =>
  bv (((((shr x 32) * (N9 64 y 4294967295)) % 18446744073709551616) + (shr w0 32)) % 18446744073709551616) fun t =>
  bv (((N9 64 t 4294967295) + (((N9 64 x 4294967295) * (shr y 32)) % 18446744073709551616)) % 18446744073709551616) fun w1 =>
  bv (((((((shr x 32) * (shr y 32)) % 18446744073709551616) + (shr t 32)) % 18446744073709551616) + (shr w1 32)) % 18446744073709551616) fun hi =>
  bv ((x * y) % 18446744073709551616) fun lo =>
  some (hi, lo)
def Ku (x y : Int) : Option (Int × Int) :=
  b2 (Jj x y) fun n n2 =>
  some (n, n2)
def CS : Nat → (List Int) → Int → Option (List Int)
  | 0, _, _ => none
  | ab + 1, aa, n4 =>
  if n4 < (aa.length : Int) then
  (gd (0 ≤ n4 ∧ n4 ≤ (aa.length : Int)) <|
  gd (0 ≤ n4 ∧ n4 ≤ (aa.length : Int)) <|
  gd (0 ≤ n4 ∧ n4 < (aa.length : Int)) <|
  bv (aa.take (Int.toNat n4) ++ (aa.take (Nat.min (Int.toNat n4) (aa.length - (Int.toNat n4))) ++ aa.drop ((Int.toNat n4) + (Nat.min (Int.toNat n4) (aa.length - (Int.toNat n4)))))) fun l2 =>
  gd (Cn (n4 + (((Nat.min (Int.toNat n4) (aa.length - (Int.toNat n4))) : Nat) : Int))) <|
  bv (n4 + (((Nat.min (Int.toNat n4) (aa.length - (Int.toNat n4))) : Nat) : Int)) fun n5 =>
  CS ab l2 n5)
  else
  (some aa)
def GR (x : List Int) (count : Int) : Option (List Int) :=
  gd (¬ (count < 0)) <|
  b2 (Ku ((x.length : Int) % 18446744073709551616) (count % 18446744073709551616)) fun n n2 =>
  gd (¬ (0 < n)) <|
  gd (¬ (9223372036854775807 < n2)) <|
  gd (Cn n2) <|
  gd (0 ≤ n2 ∧ n2 ≤ 1048576) <|
  bv (List.replicate (n2 : Int).toNat 0 : List Int) fun l =>
  bv (Sw l x) fun ab =>
  bv (((Nat.min x.length l.length : Nat) : Int)) fun n3 =>
  b1 (CS FU ab n3) fun aa =>
  some aa
def Dk (x : Int) : Nat → Int → Option Unit
  | 0, _k2 =>
  some ()
  | aj + 1, k2 =>
  b5 (C1) fun n n2 _y _y2 _y3 =>
  ap [(0, 0, 0), (2, 0, 0)] [(1, 0, 0)] fun b =>
  ix ([1, -1, 4] : List Int) 0 fun _x2 =>
  ix ([1, -1, 4] : List Int) 1 fun _x3 =>
  ix b 1 fun x4 =>
  ix b 2 fun x5 =>
  ix ([1, 2, 3] : List Int) 1 fun _x6 =>
  ix ([1, 0] : List Int) 1 fun _x7 =>
  RS (if k2 = 0 then
  (some (x, n2, 1, [1, -1, 4], b, 1, 3, [1, 2, 3], 1, 0, [1, 0]))
  else
  (if k2 = 1 then
  (some (n, x, 1, [1, -1, 4], b, 1, 3, [1, 2, 3], 1, 0, [1, 0]))
  else
  (if k2 = 2 then
  (some (n, n2, x, [1, -1, 4], b, 1, 3, [1, 2, 3], 1, 0, [1, 0]))
  else
  (if k2 = 3 then
  (bv ([1, -1, 4].set (0 : Int).toNat x) fun ak =>
  some (n, n2, 1, ak, b, 1, 3, [1, 2, 3], 1, 0, [1, 0]))
  else
  (if k2 = 4 then
  (bv ([1, -1, 4].set (1 : Int).toNat x) fun al =>
  some (n, n2, 1, al, b, 1, 3, [1, 2, 3], 1, 0, [1, 0]))
  else
  (if k2 = 5 then
  (bv (b.set (1 : Int).toNat (x, x4.2.1, x4.2.2)) fun ao =>
  some (n, n2, 1, [1, -1, 4], ao, 1, 3, [1, 2, 3], 1, 0, [1, 0]))
  else
  (if k2 = 6 then
  (bv (b.set (1 : Int).toNat (x4.1, x, x4.2.2)) fun aq =>
  some (n, n2, 1, [1, -1, 4], aq, 1, 3, [1, 2, 3], 1, 0, [1, 0]))
  else
  (if k2 = 7 then
  (bv (b.set (2 : Int).toNat (x5.1, x5.2.1, x)) fun ar =>
  some (n, n2, 1, [1, -1, 4], ar, 1, 3, [1, 2, 3], 1, 0, [1, 0]))
  else
  (if k2 = 8 then
  (some (n, n2, 1, [1, -1, 4], b, x, 3, [1, 2, 3], 1, 0, [1, 0]))
  else
  (if k2 = 9 then
  (some (n, n2, 1, [1, -1, 4], b, 1, x, [1, 2, 3], 1, 0, [1, 0]))
  else
  (if k2 = 10 then
  (bv ([1, 2, 3].set (1 : Int).toNat x) fun ah =>
  some (n, n2, 1, [1, -1, 4], b, 1, 3, ah, 1, 0, [1, 0]))
  else
  (if k2 = 11 then
  (some (n, n2, 1, [1, -1, 4], b, 1, 3, [1, 2, 3], x, 0, [1, 0]))
  else
  (if k2 = 12 then
  (some (n, n2, 1, [1, -1, 4], b, 1, 3, [1, 2, 3], 1, x, [1, 0]))
  else
  (gd (k2 = 13) <|
  bv ([1, 0].set (1 : Int).toNat x) fun AU =>
  some (n, n2, 1, [1, -1, 4], b, 1, 3, [1, 2, 3], 1, 0, AU))))))))))))))) fun ad ab ai aa ae hour ED AW au AP Af =>
  b1 (BJ ad ab [[[0], [0, ai], [1], [1], [], [], [], []]] aa ae hour ED) fun ok =>
  gd ((!ok) = false) <|
  b1 (CQ ad ab [[[0], [0, ai], [1], [1], [], [], [], []]] aa ae AW hour) fun av =>
  gd ((!av) = false) <|
  b1 (FN ad ab [[[0], [0, ai], [1], [1], [], [], [], []]] aa ae AW) fun aw =>
  gd ((!aw) = false) <|
  b1 (Cs ad ab [[[0], [0, ai], [1], [1], [], [], [], []]] aa ae [(0, 0, true), (au, 0, false)] AW) fun ax =>
  gd ((!ax) = false) <|
  b1 (Eu ad ab [[[0], [0, ai], [1], [1], [], [], [], []]] aa ae AP hour Af) fun ay =>
  gd ((!ay) = false) <|
  Dk x aj (k2 + 1)
def Bg : Nat → Int → Option Unit
  | 0, _k =>
  some ()
  | aa + 1, k =>
  b0 (ix ([-2, -1, 0, 1, 2, 3, 4, 5, 6, 7, 8, 9, 9223372036854775807, -9223372036854775808] : List Int) k fun x =>
  gd (Cn 0 ∧ Cn 14) <|
  Dk x (Int.toNat (14 - 0)) 0) <|
  Bg aa (k + 1)
def Dt (k3 : Int) : Nat → Int → Di → Di → Option (Di × Di)
  | 0, _k4, aa, ab =>
  some (aa, ab)
  | ad + 1, k4, aa, ab =>
  gd (Cn (k4 + k3)) <|
  ix ([[0], [], [1, 0], [1]] : Di) (Int.tmod (k4 + k3) 4) fun x8 =>
  ap aa [x8] fun l =>
  gd ((2 : Int) ≠ 0 ∧ Cn (Int.tdiv k3 2)) <|
  gd (Cn (k4 + (Int.tdiv k3 2))) <|
  ix ([[1], [0, 1], []] : Di) (Int.tmod (k4 + (Int.tdiv k3 2)) 3) fun x9 =>
  ap ab [x9] fun l2 =>
  Dt k3 ad (k4 + 1) l l2
def Ds (k3 : Int) : Nat → Int → Cw → Option Cw
  | 0, _k5, aa =>
  some aa
  | ab + 1, k5, aa =>
  gd (Cn (k3 + k5)) <|
  gd ((2 : Int) ≠ 0 ∧ Cn (Int.tdiv k3 2)) <|
  gd ((1 + (Int.tmod k3 2)) ≠ 0) <|
  ap aa [(Int.tmod (k3 + k5) 2, Int.tmod (Int.tdiv k3 2) 2, Int.tmod k5 (1 + (Int.tmod k3 2)))] fun l3 =>
  Ds k3 ab (k5 + 1) l3
def Bb : Nat → Int → Option Unit
  | 0, _k3 =>
  some ()
  | ad + 1, k3 =>
  b0 (gd (Cn (1 + (Int.tmod k3 2))) <|
  gd (Cn ((Int.tmod k3 9) - 1)) <|
  gd ((9 : Int) ≠ 0 ∧ Cn (Int.tdiv k3 9)) <|
  gd (Cn ((Int.tdiv k3 9) - 1)) <|
  b2 (gd (Cn 0 ∧ Cn 8) <|
  Dt k3 (Int.toNat (8 - 0)) 0 [] []) fun ae ab =>
  b1 (gd (Cn 0 ∧ Cn (Int.tmod k3 4)) <|
  Ds k3 (Int.toNat ((Int.tmod k3 4) - 0)) 0 []) fun aa =>
  b1 (JW 2 (1 + (Int.tmod k3 2)) [ae, ab] [(Int.tmod k3 9) - 1, (Int.tdiv k3 9) - 1] aa k3) fun ah =>
  gd ((!ah) = false) <|
  some ()) <|
  Bb ad (k3 + 1)
def Dj (k7 : Int) : Nat → Int → Cx → Option Cx
  | 0, _k8, aa =>
  some aa
  | ad + 1, k8, aa =>
  ix aa k7 fun ab =>
  gd (Cn (k7 + k8)) <|
  ix ab (Int.tmod (k7 + k8) 8) fun _ah =>
  bv (ab.set (Int.tmod (k7 + k8) 8 : Int).toNat [k8]) fun l8 =>
  bv (aa.set (k7 : Int).toNat l8) fun ae =>
  Dj k7 ad (k8 + 1) ae
def Du (k6 : Int) : Nat → Int → Cx → Option Cx
  | 0, _k7, aa =>
  some aa
  | ad + 1, k7, aa =>
  b1 (gd (0 ≤ (8 : Int) ∧ (8 : Int) ≤ 1048576) <|
  bv (List.replicate (8 : Int).toNat [] : Di) fun l6 =>
  ap aa [l6] fun l7 =>
  gd (Cn 0 ∧ Cn k6) <|
  Dj k7 (Int.toNat (k6 - 0)) 0 l7) fun ab =>
  Du k6 ad (k7 + 1) ab
def Bf : Nat → Int → Option Unit
  | 0, _k6 =>
  some ()
  | aw + 1, k6 =>
  b0 (gd (0 ≤ k6 ∧ k6 ≤ 1048576) <|
  gd ((2 : Int) ≠ 0 ∧ Cn (Int.tdiv (k6 + 1) 2)) <|
  b1 (GR [3] k6) fun l4 =>
  bv (List.replicate (Int.toNat k6) (0, 0, 0) : Cw) fun l5 =>
  b1 (gd ((2 : Int) ≠ 0 ∧ Cn (Int.tdiv (k6 + 1) 2)) <|
  gd (Cn 0 ∧ Cn (Int.tdiv (k6 + 1) 2)) <|
  Du k6 (Int.toNat ((Int.tdiv (k6 + 1) 2) - 0)) 0 []) fun aa =>
  b5 (C1) fun n3 n4 _y4 _y5 _y6 =>
  gd (0 ≤ k6 ∧ k6 ≤ 1048576) <|
  bv (List.replicate (k6 : Int).toNat (0, 0, 0) : Cw) fun l9 =>
  b5 (C1) fun n5 n6 _y7 _y8 _y9 =>
  gd (0 ≤ k6 ∧ k6 ≤ 1048576) <|
  bv (List.replicate (k6 : Int).toNat [] : Di) fun ah =>
  b4 (if k6 < 5 then
  (gd (Cn (k6 - 1)) <|
  b1 (BJ k6 (Int.tdiv (k6 + 1) 2) aa l4 l5 (k6 - 1) 7) fun ax =>
  gd ((!ax) = false) <|
  b1 (BJ n3 n4 [[[0], [0, 1], [1], [1], [], [], [], []]] [1, -1, 4] l9 2 (-1)) fun ay =>
  gd ((!ay) = false) <|
  b1 (CQ n3 n4 [[[0], [0, 1], [1], [1], [], [], [], []]] [1, -1, 4] l9 [2, 3, 4] 2) fun az =>
  gd ((!az) = false) <|
  b1 (BJ n5 n6 [ah] [1, -1, 4] [(0, 0, 0), (2, 0, 0)] 0 0) fun ai =>
  gd ((!ai) = false) <|
  b5 (C1) fun n7 n8 _bj _bk _bl =>
  gd (0 ≤ k6 ∧ k6 ≤ 1048576) <|
  b1 (Cs n7 n8 [[[0], [0, 1], [1], [1], [], [], [], []]] [1, -1, 4] [(0, 0, 0), (2, 0, 0)] (List.replicate (Int.toNat k6) (0, 0, false)) [2, 2, 3]) fun aj =>
  gd ((!aj) = false) <|
  b1 (Eu k6 (Int.tdiv (k6 + 1) 2) aa l4 l5 0 0 [k6 - 1]) fun ak =>
  bv (List.replicate (Int.toNat k6) (0, 0, false) : List (Int × Int × Bool)) fun _bm =>
  some ([[[0], [0, 1], [1], [1], [], [], [], []]], [ah], [(0, 0, 0), (2, 0, 0)], !ak))
  else
  (gd (Cn (k6 - 1)) <|
  b1 (BJ k6 (Int.tdiv (k6 + 1) 2) aa l4 l5 (k6 - 1) 7) fun al =>
  gd ((!al) = false) <|
  b1 (BJ n3 n4 [[[0], [0, 1], [1], [1], [], [], [], []]] [1, -1, 4] l9 2 (-1)) fun ao =>
  gd ((!ao) = false) <|
  b1 (CQ n3 n4 [[[0], [0, 1], [1], [1], [], [], [], []]] [1, -1, 4] l9 [2, 3, 4] 2) fun aq =>
  gd ((!aq) = false) <|
  b1 (BJ n5 n6 [ah] [1, -1, 4] [(0, 0, 0), (2, 0, 0)] 0 0) fun ar =>
  gd ((!ar) = false) <|
  b5 (C1) fun n9 ba _bn _bo _bp =>
  gd (0 ≤ k6 ∧ k6 ≤ 1048576) <|
  b1 (Cs n9 ba [[[0], [0, 1], [1], [1], [], [], [], []]] [1, -1, 4] [(0, 0, 0), (2, 0, 0)] (List.replicate (Int.toNat k6) (0, 0, false)) [2, 2, 3]) fun au =>
  gd ((!au) = false) <|
  bv (List.replicate (Int.toNat k6) (0, 0, false) : List (Int × Int × Bool)) fun _bq =>
  some ([[[0], [0, 1], [1], [1], [], [], [], []]], [ah], [(0, 0, 0), (2, 0, 0)], false))) fun ab ad ae k9 =>
  gd (k9 = false) <|
  b1 (b1 (Ek k6 (Int.tdiv (k6 + 1) 2) aa l4 l5) fun av =>
  if 0 < k6 then
  (gd (¬ ((decide (av = 0)) ≠ (decide (k6 < 7)))) <|
  b1 (Ek n3 n4 ab [1, -1, 4] l9) fun bb =>
  gd (¬ ((decide (bb = 0)) ≠ (decide (k6 < 13)))) <|
  b1 (Ek n5 n6 ad [1, -1, 4] ae) fun bc =>
  some (decide ((decide (bc = 0)) ≠ (decide (k6 = 8)))))
  else
  (gd (¬ ((decide (av = 0)) ≠ false)) <|
  b1 (Ek n3 n4 ab [1, -1, 4] l9) fun bd =>
  gd (¬ ((decide (bd = 0)) ≠ (decide (k6 < 13)))) <|
  b1 (Ek n5 n6 ad [1, -1, 4] ae) fun bg =>
  some (decide ((decide (bg = 0)) ≠ (decide (k6 = 8)))))) fun bh =>
  gd (bh = false) <|
  some ()) <|
  Bf aw (k6 + 1)
def Er : Option Bool :=
  b0 (gd (Cn 0 ∧ Cn 14) <|
  Bg (Int.toNat (14 - 0)) 0) <|
  b0 (gd (Cn 0 ∧ Cn 81) <|
  Bb (Int.toNat (81 - 0)) 0) <|
  b0 (gd (Cn 0 ∧ Cn 14) <|
  Bf (Int.toNat (14 - 0)) 0) <|
  b1 (BJ 0 0 [] [] [] 0 0) fun aa =>
  gd (aa = true) <|
  b1 (Cs 0 0 [] [] [] [] []) fun ab =>
  gd (ab = true) <|
  b1 (Cc) fun ad =>
  some ad
end Go.Proofs.YtdhookifhfkcpaaGreat
