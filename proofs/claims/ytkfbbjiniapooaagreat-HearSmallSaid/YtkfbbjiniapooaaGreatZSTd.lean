/- Plain functions that mirror the code, printed by a program of mine. -/
import Derived.Test.YtkfbbjiniapooaaGreatZSPl
namespace Go.Proofs.YtkfbbjiniapooaaGreat
open Go.PL
abbrev Lw := List (List Int)
def R4 : List Int := [0, 1, 2, 2, 3, 3, 3, 3, 4, 4, 4, 4, 4, 4, 4, 4, 5, 5, 5, 5, 5, 5, 5, 5, 5, 5, 5, 5, 5, 5, 5, 5, 6, 6, 6, 6, 6, 6, 6, 6, 6, 6, 6, 6, 6, 6, 6, 6, 6, 6, 6, 6, 6, 6, 6, 6, 6, 6, 6, 6, 6, 6, 6, 6, 7, 7, 7, 7, 7, 7, 7, 7, 7, 7, 7, 7, 7, 7, 7, 7, 7, 7, 7, 7, 7, 7, 7, 7, 7, 7, 7, 7, 7, 7, 7, 7, 7, 7, 7, 7, 7, 7, 7, 7, 7, 7, 7, 7, 7, 7, 7, 7, 7, 7, 7, 7, 7, 7, 7, 7, 7, 7, 7, 7, 7, 7, 7, 7, 8, 8, 8, 8, 8, 8, 8, 8, 8, 8, 8, 8, 8, 8, 8, 8, 8, 8, 8, 8, 8, 8, 8, 8, 8, 8, 8, 8, 8, 8, 8, 8, 8, 8, 8, 8, 8, 8, 8, 8, 8, 8, 8, 8, 8, 8, 8, 8, 8, 8, 8, 8, 8, 8, 8, 8, 8, 8, 8, 8, 8, 8, 8, 8, 8, 8, 8, 8, 8, 8, 8, 8, 8, 8, 8, 8, 8, 8, 8, 8, 8, 8, 8, 8, 8, 8, 8, 8, 8, 8, 8, 8, 8, 8, 8, 8, 8, 8, 8, 8, 8, 8, 8, 8, 8, 8, 8, 8, 8, 8, 8, 8, 8, 8, 8, 8, 8, 8, 8, 8, 8, 8, 8, 8, 8, 8, 8, 8]
def Fj (x : List Int) : Nat → (List Int) → Nat → Option (List Int)
  | 0, _, _ => none
  | ab + 1, aa, pos =>
  if pos < x.length then
  (ix x (pos : Nat) fun c =>
  gd (0 ≤ c ∧ c < 128) <|
  b1 (if c = 115 then
  (some 0)
  else
  (some 2)) fun p =>
  b1 (if c = 104 then
  (some 1)
  else
  (some p)) fun p2 =>
  ap aa [p2] fun t =>
  Fj x ab t (pos + 1))
  else
  (some aa)
def Fz : Lw → Int → (List Int) → Option (Int × (List Int))
  | [], ab, aa =>
  some (ab, aa)
  | x :: ae, _ab, aa =>
  b1 (Fj x FU aa 0) fun ad =>
  Fz ae (x.length : Int) ad
def Ee (rows : Lw) : Option (Int × (List Int)) :=
  b2 (Fz rows 0 []) fun ab aa =>
  some (ab, aa)
def GM (n lo hi : Int) : Option Bool :=
  if lo ≤ n then
  (some (decide (n ≤ hi)))
  else
  (some false)
def C3 : Option Int :=
  some (-1)
def Bn (f : Int → Option Bool) : List Int → Int → Option Int
  | [], _k =>
  C3
  | x :: aa, k =>
  b1 (f x) fun ok =>
  if ok = true then
  (some k)
  else
  (Bn f aa (k + 1))
def Cy (s_ : List Int) (f : Int → Option Bool) : Option Int :=
  Bn f s_ 0
def Cd (s_ : List Int) (f : Int → Option Bool) : Option Bool :=
  b1 (Cy s_ f) fun n =>
  some (decide (0 ≤ n))
def EI (x : Int) (so : Int → Option Bool) : Option Bool :=
  b1 (so x) fun ok =>
  some (!ok)
def G2 (l : List Int) (so : Int → Option Bool) : Option Bool :=
  b1 (Cd l (fun aa : Int => EI aa so)) fun ok =>
  some (!ok)
def IC (p : Int) : Option Bool :=
  b1 (GM p 0 2) fun ok =>
  some ok
def Cz : List Int → Int → Option Int
  | [], n2 =>
  some n2
  | x :: aa, n2 =>
  if x = 1 then
  (gd (Cm (n2 + 1)) <|
  Cz aa (n2 + 1))
  else
  (Cz aa n2)
def Gt (_wide : Int) (Ac : List Int) : Option Int :=
  b1 (Cz Ac 0) fun n =>
  some n
def Ep (wide : Int) (Ac : List Int) : Option Int :=
  b1 (b1 (GM wide 1 6) fun ok =>
  if (!ok) = true then
  (some true)
  else
  (b1 (GM (Ac.length : Int) 1 30) fun aa =>
  if (!aa) = true then
  (some true)
  else
  (gd (wide ≠ 0) <|
  some (decide ((Int.tmod (Ac.length : Int) wide) ≠ 0))))) fun k =>
  if k = true then
  (some 2)
  else
  (b1 (G2 Ac (fun ab : Int => IC ab)) fun ad =>
  if (!ad) = true then
  (some 3)
  else
  (b1 (Gt wide Ac) fun n =>
  if 10 < n then
  (some 2)
  else
  (some 0)))
def Gs : Option Bool :=
  some true
def C4 (s2 : List Int) : List Int → Int → Option Bool
  | [], _k =>
  Gs
  | x :: aa, k =>
  ix s2 k fun x2 =>
  if x ≠ x2 then
  (some false)
  else
  (C4 s2 aa (k + 1))
def FR (s1 s2 : List Int) : Option Bool :=
  if (s1.length : Int) ≠ (s2.length : Int) then
  (some false)
  else
  (C4 s2 s1 0)
def Bk (a b : List Int) : Option Bool :=
  b1 (FR a b) fun ok =>
  some ok
def Fk (_wide : Int) (Ac : List Int) (p : Int) : Option Bool :=
  gd (Cm ((Ac.length : Int) - 1)) <|
  b1 (GM p 0 ((Ac.length : Int) - 1)) fun ok =>
  some ok
def D9 (wide : Int) (Ac : List Int) (p kind : Int) : Option Int :=
  b1 (Fk wide Ac p) fun ok =>
  if (!ok) = true then
  (some 1)
  else
  (ix Ac p fun x =>
  if x ≠ kind then
  (some 8)
  else
  (some 0))
def Gm (w : Int) : Option Bool :=
  b1 (GM w 0 4) fun ok =>
  some ok
def MC : Option (List (Int × (Int × Int))) :=
  bv (Mh [] 1 (-1, 0)) fun met =>
  bv (Mh met 2 (0, 1)) fun aa =>
  bv (Mh aa 3 (1, 0)) fun ab =>
  bv (Mh ab 4 (0, -1)) fun ad =>
  some ad
def GD (wide : Int) (Ac : List Int) (AK : Int) : Option ((Option (Int × (List Int) × Int × Int × Bool)) × Int) :=
  b1 (Ep wide Ac) fun n =>
  if n ≠ 0 then
  (some (none, n))
  else
  (b1 (Gm AK) fun ok =>
  if (!ok) = true then
  (some (none, 3))
  else
  (b1 (MC) fun m =>
  some (some (wide, Ac, ((Gi m AK).getD (0, 0)).1, ((Gi m AK).getD (0, 0)).2, (Gi m AK).isSome), 0)))
def I6 (wide : Int) (Ac : List Int) (AK stand : Int) : Option ((Option (Int × (List Int) × Int × Int × Bool)) × Int) :=
  b2 (GD wide Ac AK) fun d n =>
  if n ≠ 0 then
  (some (none, n))
  else
  (b1 (D9 wide Ac stand 0) fun n2 =>
  if n2 ≠ 0 then
  (some (none, n2))
  else
  (some (d, 0)))
def EA (_wide : Int) (Ac : List Int) (p : Int) : Option Bool :=
  ix Ac p fun x =>
  some (decide (x = 2))
def Iw (down Bb : Int) : Option (Int × Int) :=
  gd (Cm (-down)) <|
  gd (Cm (-Bb)) <|
  some (-down, -Bb)
def FI (_wide : Int) (Ac : List Int) (down Bb : Int) (BW : Bool) (ab aa to : Int) : Option Int :=
  b1 (if (!BW) = true then
  (some 2)
  else
  (if ab = down ∧ aa = Bb then
  (some 1)
  else
  (b2 (Iw down Bb) fun n2 n3 =>
  if ab = n2 ∧ aa = n3 then
  (some 4)
  else
  (some 2)))) fun n =>
  ix Ac to fun x =>
  if x = 1 then
  (gd (Cm (n + 1)) <|
  some (n + 1))
  else
  (some n)
def BM (p wide : Int) (Ac : List Int) (down Bb : Int) (BW : Bool) (closed : Int → Option Bool) : Nat → Int → Option (List (Int × Int))
  | 0, _k =>
  some []
  | aa + 1, k =>
  ix ([(-1, 0), (0, -1), (0, 1), (1, 0)] : List (Int × Int)) k fun x =>
  gd (Cm (x.1 * wide)) <|
  gd (Cm (p + (x.1 * wide))) <|
  gd (Cm ((p + (x.1 * wide)) + x.2)) <|
  b1 (Fk wide Ac ((p + (x.1 * wide)) + x.2)) fun ok =>
  if (!ok) = true then
  (BM p wide Ac down Bb BW closed aa (k + 1))
  else
  (if x.1 = 0 then
  (gd ((wide : Int) ≠ 0 ∧ Cm (Int.tdiv ((p + (x.1 * wide)) + x.2) wide)) <|
  gd ((wide : Int) ≠ 0 ∧ Cm (Int.tdiv p wide)) <|
  if (Int.tdiv ((p + (x.1 * wide)) + x.2) wide) ≠ (Int.tdiv p wide) then
  (BM p wide Ac down Bb BW closed aa (k + 1))
  else
  (b1 (closed ((p + (x.1 * wide)) + x.2)) fun ab =>
  if ab = true then
  (BM p wide Ac down Bb BW closed aa (k + 1))
  else
  (b1 (FI wide Ac down Bb BW x.1 x.2 ((p + (x.1 * wide)) + x.2)) fun n =>
  yl ((p + (x.1 * wide)) + x.2, n) <|
  BM p wide Ac down Bb BW closed aa (k + 1))))
  else
  (b1 (closed ((p + (x.1 * wide)) + x.2)) fun ad =>
  if ad = true then
  (BM p wide Ac down Bb BW closed aa (k + 1))
  else
  (b1 (FI wide Ac down Bb BW x.1 x.2 ((p + (x.1 * wide)) + x.2)) fun n2 =>
  yl ((p + (x.1 * wide)) + x.2, n2) <|
  BM p wide Ac down Bb BW closed aa (k + 1))))
def Hy (p wide : Int) (Ac : List Int) (down Bb : Int) (BW : Bool) (closed : Int → Option Bool) : Option (List (Int × Int)) :=
  gd (Cm 0 ∧ Cm 4) <|
  BM p wide Ac down Bb BW closed (Int.toNat (4 - 0)) 0
def Ew (wide : Int) (Ac : List Int) (down Bb : Int) (BW : Bool) (p : Int) : Option (List (Int × Int)) :=
  b1 (Hy p wide Ac down Bb BW (fun aa : Int => EA wide Ac aa)) fun l =>
  some l
def Dv : Nat → Int → (List Int) → Option (List Int)
  | 0, _k, aa =>
  some aa
  | ad + 1, k, aa =>
  ix aa k fun _x =>
  bv (aa.set (k : Int).toNat (-1)) fun ab =>
  Dv ad (k + 1) ab
def Cl (x3 : Int) (ad : (List Int) → (List Int) → Option (List Int)) : List (Int × Int) → (List Int) → (List Int) → Option (List Int)
  | [], aa, ab =>
  ad aa ab
  | x4 :: af, aa, ab =>
  b1 (ix aa x4.1 fun x5 =>
  if x5 = (-1) then
  (some true)
  else
  (ix aa x3 fun x6 =>
  gd (Cm (x6 + x4.2)) <|
  some (decide ((x6 + x4.2) < x5)))) fun k2 =>
  if k2 = true then
  (ix aa x3 fun x7 =>
  gd (Cm (x7 + x4.2)) <|
  ix aa x4.1 fun _x8 =>
  bv (aa.set (x4.1 : Int).toNat (x7 + x4.2)) fun l2 =>
  ap ab [x4.1] fun ae =>
  Cl x3 ad af l2 ae)
  else
  (Cl x3 ad af aa ab)
def Ds (wide : Int) (Ac : List Int) (down Bb : Int) (BW : Bool) : Nat → (List Int) → (List Int) → Option (List Int)
  | 0, _, _ => none
  | ad + 1, aa, line =>
  if 0 < (line.length : Int) then
  (ix line 0 fun x3 =>
  gd ((0 ≤ (1 : Int) ∧ (1 : Int) ≤ (line.length : Int)) ∧ (line.length : Int) ≤ line.length) <|
  bv (sl line 1 (line.length : Int)) fun ab =>
  b1 (Ew wide Ac down Bb BW x3) fun y =>
  Cl x3 (Ds wide Ac down Bb BW ad) y aa ab)
  else
  (some aa)
def Fi (wide : Int) (Ac : List Int) (down Bb : Int) (BW : Bool) (stand : Int) : Option (List Int) :=
  gd (0 ≤ (Ac.length : Int) ∧ (Ac.length : Int) ≤ 1048576) <|
  bv (List.replicate ((Ac.length : Int) : Int).toNat 0 : List Int) fun l =>
  b1 (gd (Cm 0 ∧ Cm (l.length : Int)) <|
  Dv (Int.toNat ((l.length : Int) - 0)) 0 l) fun out =>
  ix out stand fun _x2 =>
  bv (out.set (stand : Int).toNat 0) fun aa =>
  b1 (Ds wide Ac down Bb BW FU aa [stand]) fun ab =>
  some ab
def Hm (wide : Int) (Ac : List Int) (AK stand : Int) : Option ((List Int) × Int) :=
  b2 (I6 wide Ac AK stand) fun d n =>
  if n ≠ 0 then
  (some ([], n))
  else
  (b5 d fun ab aa down Bb BW =>
  b1 (Fi ab aa down Bb BW stand) fun l =>
  some (l, 0))
def JG (wide : Int) (Ac : List Int) (AK stand Cw : Int) : Option (Int × Int) :=
  b2 (Hm wide Ac AK stand) fun l n =>
  if n ≠ 0 then
  (some (0, n))
  else
  (b1 (Fk wide Ac Cw) fun ok =>
  if (!ok) = true then
  (some (0, 1))
  else
  (ix l Cw fun x =>
  if x = (-1) then
  (some (0, 6))
  else
  (some (x, 0))))
def Kv : Option (Bool × Int) :=
  some (false, 0)
def Kr (k : Int) (aa : Int → Option (Bool × Int)) : Option (Bool × Int) :=
  aa (k + 1)
def HL (wide : Int) (Ac table : List Int) (k : Int) (aa : Int → Option (Bool × Int)) : List (Int × Int) → Option (Bool × Int)
  | [] =>
  Kr k aa
  | x3 :: ab =>
  b1 (b1 (EA wide Ac k) fun ok =>
  if (!ok) = true then
  (ix table x3.1 fun x4 =>
  ix table k fun x5 =>
  if x5 < x4 then
  (some (decide ((x3.2 % 18446744073709551616) < (((x4 % 18446744073709551616) - (x5 % 18446744073709551616)) % 18446744073709551616))))
  else
  (some false))
  else
  (some false)) fun k2 =>
  if k2 = true then
  Kv
  else
  HL wide Ac table k aa ab
def Ku : Option (Bool × Int) :=
  some (true, 0)
def Gg (wide : Int) (Ac table : List Int) (d : Option (Int × (List Int) × Int × Int × Bool)) : List Int → Int → Option (Bool × Int)
  | [], _k =>
  Ku
  | _x2 :: ad, k =>
  b5 d fun ab aa down Bb BW =>
  b1 (Ew ab aa down Bb BW k) fun y =>
  HL wide Ac table k (Gg wide Ac table d ad) y
def K5 (wide : Int) (Ac : List Int) (AK stand : Int) (table : List Int) : Option (Bool × Int) :=
  b2 (I6 wide Ac AK stand) fun d n =>
  if n ≠ 0 then
  (some (false, n))
  else
  (if (table.length : Int) ≠ (Ac.length : Int) then
  (some (false, 2))
  else
  (ix table stand fun x =>
  if x ≠ 0 then
  (some (false, 0))
  else
  (Gg wide Ac table d Ac 0)))
def Dn : Nat → (List Int) → Int → Int → Option (List Int)
  | 0, _, _, _ => none
  | ab + 1, aa, i, j =>
  if i < j then
  (ix aa j fun x =>
  ix aa i fun x2 =>
  bv (aa.set (i : Int).toNat x) fun l =>
  ix l j fun _x3 =>
  bv (l.set (j : Int).toNat x2) fun l2 =>
  gd (Cm (i + 1)) <|
  gd (Cm (j - 1)) <|
  Dn ab l2 (i + 1) (j - 1))
  else
  (some aa)
def GR (s_ : List Int) : Option (List Int) :=
  gd (Cm ((s_.length : Int) - 1)) <|
  Dn FU s_ 0 ((s_.length : Int) - 1)
def Io (l : List Int) (p k : Int) : List (Int × Int) → Int → Option Int
  | [], aa =>
  some aa
  | x2 :: ab, aa =>
  b1 (if x2.1 = p then
  (ix l k fun x3 =>
  if x3 ≠ (-1) then
  (gd (Cm (x3 + x2.2)) <|
  ix l p fun x4 =>
  some (decide ((x3 + x2.2) = x4)))
  else
  (some false))
  else
  (some false)) fun k2 =>
  if k2 = true then
  (Io l p k ab k)
  else
  (Io l p k ab aa)
def Je (ae : Int) (ab : List Int) (down Bb : Int) (BW : Bool) (l : List Int) (p : Int) : List Int → Int → Int → Option Int
  | [], _k, aa =>
  some aa
  | _x :: af, k, aa =>
  b1 (b1 (Ew ae ab down Bb BW k) fun y =>
  Io l p k y aa) fun ad =>
  Je ae ab down Bb BW l p af (k + 1) ad
def Jg (Ac : List Int) (stand ab : Int) (aa : List Int) (down Bb : Int) (BW : Bool) (l : List Int) : Nat → (List Int) → Int → Option (List Int)
  | 0, _, _ => none
  | ah + 1, ad, p =>
  if p ≠ stand then
  (b2 (b1 (Je ab aa down Bb BW l p Ac 0 (-1)) fun before =>
  ap ad [before] fun ae =>
  some (ae, before)) fun af p2 =>
  Jg Ac stand ab aa down Bb BW l ah af p2)
  else
  (some ad)
def KC (wide : Int) (Ac : List Int) (AK stand Cw : Int) : Option ((List Int) × Int) :=
  b2 (JG wide Ac AK stand Cw) fun _n n2 =>
  if n2 ≠ 0 then
  (some ([], n2))
  else
  (b2 (GD wide Ac AK) fun d _n3 =>
  b5 d fun ab aa down Bb BW =>
  b1 (Fi ab aa down Bb BW stand) fun l =>
  b1 (Jg Ac stand ab aa down Bb BW l FU [Cw] Cw) fun out =>
  b1 (GR out) fun s_ =>
  some (s_, 0))
def Fa (AK AF : Int) : Option Int :=
  b1 (b1 (Gm AK) fun ok =>
  if (!ok) = true then
  (some true)
  else
  (b1 (GM AF 1 40) fun aa =>
  some (!aa))) fun k =>
  if k = true then
  (some 3)
  else
  (some 0)
def Cq (Ac : List Int) (AF k : Int) : List Int → Int → (List (List Bool)) → Option (List (List Bool))
  | [], _k2, aa =>
  some aa
  | x2 :: ad, k2, aa =>
  b1 (ix Ac k2 fun x3 =>
  if x3 = 1 then
  (b1 (GM x2 0 AF) fun ok =>
  some ok)
  else
  (some false)) fun k3 =>
  if k3 = true then
  (ix aa k2 fun x4 =>
  ix x4 k fun _x5 =>
  bv (aa.set (k2 : Int).toNat (x4.set (k : Int).toNat true)) fun ab =>
  Cq Ac AF k ad (k2 + 1) ab)
  else
  (Cq Ac AF k ad (k2 + 1) aa)
def Df (wide : Int) (Ac : List Int) (down Bb : Int) (BW : Bool) (AF : Int) : List Int → Int → (List (List Bool)) → Option (List (List Bool))
  | [], _k, aa =>
  some aa
  | x :: ad, k, aa =>
  b1 (if x ≠ 0 then
  (some aa)
  else
  (b1 (Fi wide Ac down Bb BW k) fun l2 =>
  Cq Ac AF k l2 0 aa)) fun ab =>
  Df wide Ac down Bb BW AF ad (k + 1) ab
def GZ (wide : Int) (Ac : List Int) (down Bb : Int) (BW : Bool) (AF : Int) : Option (List (List Bool)) :=
  gd (0 ≤ (Ac.length : Int) ∧ (Ac.length : Int) ≤ 1048576) <|
  bv (List.replicate ((Ac.length : Int) : Int).toNat (List.replicate 30 false) : List (List Bool)) fun l =>
  b1 (Df wide Ac down Bb BW AF Ac 0 l) fun out =>
  some out
def Ib (wide : Int) (Ac : List Int) (AK AF : Int) : Option ((List (List Bool)) × Int) :=
  b1 (Ep wide Ac) fun n =>
  if n ≠ 0 then
  (some ([], n))
  else
  (b1 (Fa AK AF) fun n2 =>
  if n2 ≠ 0 then
  (some ([], n2))
  else
  (b2 (GD wide Ac AK) fun d _n3 =>
  b5 d fun ab aa down Bb BW =>
  b1 (GZ ab aa down Bb BW AF) fun l =>
  some (l, 0)))
def GA : Option Int :=
  some (-1)
def CD (v : Int) : List Int → Int → Option Int
  | [], _k =>
  GA
  | x :: aa, k =>
  if v = x then
  (some k)
  else
  (CD v aa (k + 1))
def FQ (s_ : List Int) (v : Int) : Option Int :=
  CD v s_ 0
def DN (s_ : List Int) (v : Int) : Option Bool :=
  b1 (FQ s_ v) fun n =>
  some (decide (0 ≤ n))
def H8 : Option Int :=
  some 0
def DL (wide : Int) (Ac AI : List Int) : List Int → Int → Option Int
  | [], _k =>
  H8
  | x :: ab, k =>
  b1 (D9 wide Ac x 1) fun n =>
  if n ≠ 0 then
  (some n)
  else
  (gd ((0 ≤ (0 : Int) ∧ (0 : Int) ≤ k) ∧ k ≤ AI.length) <|
  bv (sl AI 0 k) fun aa =>
  b1 (DN aa x) fun ok =>
  if ok = true then
  (some 5)
  else
  (DL wide Ac AI ab (k + 1)))
def H2 (wide : Int) (Ac AI : List Int) : Option Int :=
  DL wide Ac AI AI 0
def FX : Nat → Int → Int → Option Int
  | 0, _, _ => none
  | ab + 1, aa, n2 =>
  if 0 < aa then
  (gd (Cm (n2 + (Int.tmod aa 2))) <|
  gd ((2 : Int) ≠ 0 ∧ Cm (Int.tdiv aa 2)) <|
  FX ab (Int.tdiv aa 2) (n2 + (Int.tmod aa 2)))
  else
  (some n2)
def Dw (G1 : Int) : Option Int :=
  b1 (FX FU G1 0) fun n =>
  some n
def E7 (l : List (List Bool)) : List Int → (List (List Bool)) → Option (List (List Bool))
  | [], aa =>
  some aa
  | x :: ab, aa =>
  ix l x fun x2 =>
  ap aa [x2] fun l2 =>
  E7 l ab l2
def Ft (wide : Int) (Ac : List Int) (AK AF : Int) (AI : List Int) : Option ((List (List Bool)) × Bool × Int) :=
  b2 (Ib wide Ac AK AF) fun l n =>
  if n ≠ 0 then
  (some ([], false, n))
  else
  (b1 (H2 wide Ac AI) fun n2 =>
  if n2 ≠ 0 then
  (some ([], false, n2))
  else
  (b1 (E7 l AI []) fun aa =>
  some (aa, true, 0)))
def DC : Option Int :=
  some (-1)
def Bx (v : List Bool) : List (List Bool) → Int → Option Int
  | [], _k =>
  DC
  | x :: aa, k =>
  if v = x then
  (some k)
  else
  (Bx v aa (k + 1))
def CZ (s_ : List (List Bool)) (v : List Bool) : Option Int :=
  Bx v s_ 0
def CH (s_ : List (List Bool)) (v : List Bool) : Option Bool :=
  b1 (CZ s_ v) fun n =>
  some (decide (0 ≤ n))
def EH (Bl : List (List Bool)) (_count : Int → Option Int) : Option Bool :=
  b1 (CH Bl (List.replicate 30 false)) fun ok =>
  some ok
def A8 (k : Int) : Nat → (List (List Bool)) → Int → Int → Option ((List (List Bool)) × Int)
  | 0, _, _, _ => none
  | ad + 1, ab, k3, aa =>
  if aa < ((ab.length - Int.toNat k : Nat) : Int) then
  (ix (ab.drop (Int.toNat k)) aa fun x3 =>
  gd (Cm (aa - 1)) <|
  ix (ab.drop (Int.toNat k)) (aa - 1) fun x4 =>
  if x3 ≠ x4 then
  (ix ab k3 fun _x5 =>
  bv (ab.set (k3 : Int).toNat x3) fun ae =>
  gd (Cm (k3 + 1)) <|
  gd (Cm (aa + 1)) <|
  A8 k ad ae (k3 + 1) (aa + 1))
  else
  (gd (Cm (aa + 1)) <|
  A8 k ad ab k3 (aa + 1)))
  else
  (some (ab, k3))
def Ct (k : Int) (aa : Int → Option (List (List Bool))) : Option (List (List Bool)) :=
  aa (k + 1)
def Cs (s_ : List (List Bool)) : Option (List (List Bool)) :=
  some s_
def Bd (s_ : List (List Bool)) : Nat → Int → Option (List (List Bool))
  | 0, _k =>
  Cs s_
  | ad + 1, k =>
  ix s_ k fun x =>
  gd (Cm (k - 1)) <|
  ix s_ (k - 1) fun x2 =>
  if x = x2 then
  (gd (0 ≤ k ∧ k ≤ (s_.length : Int)) <|
  b2 (A8 k FU s_ k 1) fun aa k2 =>
  gd (0 ≤ k2 ∧ k2 ≤ (aa.length : Int)) <|
  bv (aa.take (Int.toNat k2) ++ List.replicate (aa.length - Int.toNat k2) (List.replicate 30 false) : List (List Bool)) fun ab =>
  gd ((0 ≤ (0 : Int) ∧ (0 : Int) ≤ k2) ∧ k2 ≤ ab.length) <|
  bv (sl ab 0 k2) fun ae =>
  some ae)
  else
  Ct k (Bd s_ ad)
def B4 (s_ : List (List Bool)) : Option (List (List Bool)) :=
  if (s_.length : Int) < 2 then
  (some s_)
  else
  (gd (Cm 1 ∧ Cm (s_.length : Int)) <|
  Bd s_ (Int.toNat ((s_.length : Int) - 1)) 1)
def Ch (s_ : List (List Bool)) : Option (List (List Bool)) :=
  Oe (s_ = []) (some []) (ap ([] : List (List Bool)) s_ fun l =>
  some l)
def Cn (stand : Int) : List (List Bool) → Int → Int → Option Int
  | [], _k, aa =>
  some aa
  | x :: ab, k, aa =>
  ix x stand fun x2 =>
  if x2 = true then
  (gd ((0 ≤ (k : Int) ∧ (k : Int) < 64) ∧ Cm (shl 1 k)) <|
  Cn stand ab (k + 1) (Ps aa (shl 1 k)))
  else
  (Cn stand ab (k + 1) aa)
def EO (Bl : List (List Bool)) (_count : Int → Option Int) (stand : Int) : Option Int :=
  b1 (Cn stand Bl 0 0) fun G1 =>
  some G1
def Ge : List Int → Int → Option Int
  | [], n3 =>
  some n3
  | x :: aa, n3 =>
  Ge aa (if x < n3 then x else n3)
def JX (n : Int) (more : List Int) : Option Int :=
  b1 (Ge more n) fun n2 =>
  some n2
def E5 (rec_ : Int → Int → Int → (List (List Bool)) → (Int → Option Int) → (List ((Int × Int × Int) × Int)) → Option (Int × (List ((Int × Int × Int) × Int)))) (from_ aa G1 : Int) (Bl : List (List Bool)) (count : Int → Option Int) (met : List ((Int × Int × Int) × Int)) : Option (Int × (List ((Int × Int × Int) × Int))) :=
  b1 (if aa = 0 then
  (some true)
  else
  (some (decide (from_ = 30)))) fun k =>
  if k = true then
  (b1 (count G1) fun n =>
  some (n, met))
  else
  (bv ((Gi met (from_, aa, G1)).getD 0) fun n2 =>
  if ((Gi met (from_, aa, G1)).isSome) = true then
  (some (n2, met))
  else
  (gd (Cm (from_ + 1)) <|
  b2 (rec_ (from_ + 1) aa G1 Bl count met) fun n3 ab =>
  b2 (b1 (EO Bl count from_) fun n5 =>
  if (Ps G1 n5) ≠ G1 then
  (gd (Cm (from_ + 1)) <|
  gd (Cm (aa - 1)) <|
  b2 (rec_ (from_ + 1) (aa - 1) (Ps G1 n5) Bl count ab) fun n6 ad =>
  some (ad, if n6 > n3 then n6 else n3))
  else
  (some (ab, n3))) fun m n4 =>
  bv (Mh m (from_, aa, G1) n4) fun ae =>
  some (n4, ae)))
def BB : Nat → Int → Int → Int → (List (List Bool)) → (Int → Option Int) → (List ((Int × Int × Int) × Int)) → Option (Int × (List ((Int × Int × Int) × Int)))
  | 0, _, _, _, _, _, _ => none
  | fu + 1, from_, aa, G1, Bl, count, met =>
  E5 (BB fu) from_ aa G1 Bl count met
def Ci (Bl : List (List Bool)) (count : Int → Option Int) (n2 : Int) : Nat → (List ((Int × Int × Int) × Int)) → Int → Option ((List ((Int × Int × Int) × Int)) × Int)
  | 0, _, _ => none
  | ad + 1, m2, aa =>
  b2 (BB FU 0 aa 0 Bl count m2) fun n3 ab =>
  if n3 < n2 then
  (gd (Cm (aa + 1)) <|
  Ci Bl count n2 ad ab (aa + 1))
  else
  (some (ab, aa))
def CL (Bl : List (List Bool)) (count : Int → Option Int) (n2 ab ad : Int) : Nat → (List ((Int × Int × Int) × Int)) → Int → Option ((List ((Int × Int × Int) × Int)) × Int)
  | 0, _, _ => none
  | af + 1, m5, aa =>
  gd (Cm (aa + 1)) <|
  gd (Cm (ab - 1)) <|
  b1 (EO Bl count aa) fun n4 =>
  b2 (BB FU (aa + 1) (ab - 1) (Ps ad n4) Bl count m5) fun n5 ae =>
  if n5 < n2 then
  (gd (Cm (aa + 1)) <|
  CL Bl count n2 ab ad af ae (aa + 1))
  else
  (some (ae, aa))
def B0 (Bl : List (List Bool)) (count : Int → Option Int) (n2 : Int) : Nat → (List ((Int × Int × Int) × Int)) → Int → Int → Int → (List Int) → Option (List Int)
  | 0, _, _, _, _, _ => none
  | ai + 1, m3, ae, aa, ad, af =>
  if 0 < aa then
  (b2 (CL Bl count n2 aa ad FU m3 ae) fun m4 ab =>
  ap af [ab] fun ah =>
  gd (Cm (ab + 1)) <|
  gd (Cm (aa - 1)) <|
  b1 (EO Bl count ab) fun n6 =>
  B0 Bl count n2 ai m4 (ab + 1) (aa - 1) (Ps ad n6) ah)
  else
  (some af)
def Dr (Bl : List (List Bool)) (count : Int → Option Int) (most : Int) : Option ((List Int) × Int) :=
  b1 (JX most [(Bl.length : Int)]) fun n =>
  b2 (BB FU 0 n 0 Bl count []) fun n2 met =>
  b2 (Ci Bl count n2 FU met 0) fun m aa =>
  b1 (B0 Bl count n2 FU m 0 aa 0 []) fun out =>
  some (out, n2)
def DQ (wide : Int) (Ac : List Int) (AK AF : Int) (AI : List Int) : Option ((List Int) × Int) :=
  b3 (Ft wide Ac AK AF AI) fun l y n =>
  if n ≠ 0 then
  (some ([], n))
  else
  (gd (y = true) <|
  b1 (EH l (fun aa : Int => Dw aa)) fun ok =>
  if ok = true then
  (some ([], 6))
  else
  (b1 (Ch l) fun l2 =>
  b1 (B4 l2) fun l3 =>
  b2 (Dr l3 (fun aa : Int => Dw aa) (l3.length : Int)) fun l4 _n2 =>
  some (l4, 0)))
def Ht (wide : Int) (Ac : List Int) (AK : Int) (AI : List Int) (BC : Int) : Nat → Int → Option Int
  | 0, _k =>
  some 0
  | aa + 1, k =>
  b3 (Ft wide Ac AK (k + 1) AI) fun l2 y2 _n2 =>
  gd (y2 = true) <|
  b2 (Dr l2 (fun ab : Int => Dw ab) BC) fun _l3 n3 =>
  if n3 = (AI.length : Int) then
  (some (k + 1))
  else
  (Ht wide Ac AK AI BC aa (k + 1))
def J2 (wide : Int) (Ac : List Int) (AK : Int) (AI : List Int) (BC : Int) : Option (Int × Int) :=
  b3 (Ft wide Ac AK 40 AI) fun _l _y n =>
  if n ≠ 0 then
  (some (0, n))
  else
  (b1 (GM BC 0 30) fun ok =>
  if (!ok) = true then
  (some (0, 3))
  else
  (b1 (gd (Cm 0 ∧ Cm 40) <|
  Ht wide Ac AK AI BC (Int.toNat (40 - 0)) 0) fun out =>
  if out = 0 then
  (some (0, 6))
  else
  (some (out, 0))))
def BL : Option Bool :=
  b2 (Ee [[115, 104, 115, 104]]) fun n l =>
  b2 (Ee [[104, 115, 104], [115, 119, 115]]) fun n2 l2 =>
  b2 (Hm n l 4 0) fun l3 n3 =>
  b2 (DQ n l 0 5 [1, 3]) fun l4 n4 =>
  b2 (DQ n2 l2 0 3 [0, 2]) fun l5 n5 =>
  b2 (K5 n2 l2 0 1 [3, 0, 3, 5, 0, 5]) fun ok n6 =>
  b1 (if n3 ≠ 0 then
  (some true)
  else
  (if n4 ≠ 0 then
  (some true)
  else
  (if n5 ≠ 0 then
  (some true)
  else
  (if n6 ≠ 0 then
  (some true)
  else
  (if (!ok) = true then
  (some true)
  else
  (b1 (Bk l3 [0, 5, 9, 14]) fun aa =>
  if (!aa) = true then
  (some true)
  else
  (b1 (Bk l4 [2]) fun ab =>
  if (!ab) = true then
  (some true)
  else
  (b1 (Bk l5 [1]) fun ad =>
  some (!ad))))))))) fun k =>
  if k = true then
  (some false)
  else
  (b2 (J2 n l 2 [1, 3] 1) fun n7 n8 =>
  b2 (KC n2 l2 0 3 2) fun l6 n9 =>
  b2 (Ee [[115, 104, 119, 104]]) fun ae l7 =>
  b2 (JG ae l7 0 0 3) fun _ai af =>
  if n8 = 0 then
  (if n9 = 0 then
  (if n7 = 5 then
  (b1 (Bk l6 [3, 0, 1, 2]) fun ah =>
  if ah = true then
  (some (decide (af = 6)))
  else
  (some false))
  else
  (some false))
  else
  (some false))
  else
  (some false))
def Ed (_wide : Int) (Ac : List Int) : Option Bool :=
  some (decide (40 < (Ac.length : Int)))
def Ga (l : List Int) : Option (List Int) :=
  gd (0 ≤ (l.length : Int) ∧ (l.length : Int) ≤ 1048576) <|
  bv (List.replicate ((l.length : Int) : Int).toNat 0 : List Int) fun l2 =>
  bv (W1 l2 l) fun out =>
  some out
def D0 (wide : Int) (Ac : List Int) : Option (Int × (List Int)) :=
  b1 (Ga Ac) fun l =>
  some (wide, l)
def CS : List Int → (List Int) → Option (List Int)
  | [], aa =>
  some aa
  | x :: ab, aa =>
  ap aa [x] fun out =>
  CS ab out
def CG (wide : Int) (Ac : List Int) : Option (Int × (List Int)) :=
  b1 (CS Ac []) fun aa =>
  some (wide, aa)
def Cr (n lo hi : Int) : Option Bool :=
  if n < lo then
  (some true)
  else
  (some (decide (hi < n)))
def CN : List Int → Int → Option Int
  | [], aa =>
  some aa
  | x2 :: ab, aa =>
  if x2 = 1 then
  (gd (Cm (aa + 1)) <|
  CN ab (aa + 1))
  else
  (CN ab aa)
def GH (Ac : List Int) : Option Int :=
  b1 (CN Ac 0) fun AI =>
  if 10 < AI then
  (some 2)
  else
  (some 0)
def Dg (Ac : List Int) : List Int → Option Int
  | [] =>
  GH Ac
  | x :: aa =>
  b1 (Cr x 0 2) fun ab =>
  if ab = true then
  (some 3)
  else
  (Dg Ac aa)
def CR (wide : Int) (Ac : List Int) : Option Int :=
  b1 (b1 (Cr wide 1 6) fun ok =>
  if ok = true then
  (some true)
  else
  (b1 (Cr (Ac.length : Int) 1 30) fun aa =>
  if aa = true then
  (some true)
  else
  (gd (wide ≠ 0) <|
  some (decide ((Int.tmod (Ac.length : Int) wide) ≠ 0))))) fun k =>
  if k = true then
  (some 2)
  else
  (Dg Ac Ac)
def Da (AK AF : Int) : Option Int :=
  b1 (b1 (Cr AK 0 4) fun ok =>
  if ok = true then
  (some true)
  else
  (b1 (Cr AF 1 40) fun aa =>
  some aa)) fun k =>
  if k = true then
  (some 3)
  else
  (some 0)
def LI (wide : Int) (Ac : List Int) (Cw : Int) : Option (Int × (List Int) × Int) :=
  b1 (Ep wide Ac) fun n =>
  if n ≠ 0 then
  (some (0, [], n))
  else
  (b1 (D9 wide Ac Cw 0) fun n2 =>
  if n2 ≠ 0 then
  (some (0, [], n2))
  else
  (gd (0 ≤ (Ac.length : Int) ∧ (Ac.length : Int) ≤ 1048576) <|
  bv (List.replicate ((Ac.length : Int) : Int).toNat 0 : List Int) fun l =>
  bv (W1 l Ac) fun out =>
  ix out Cw fun _x =>
  bv (out.set (Cw : Int).toNat 2) fun aa =>
  some (wide, aa, 0)))
def DE (_wide : Int) (Ac : List Int) (p kind : Int) : Option Int :=
  gd (Cm ((Ac.length : Int) - 1)) <|
  b1 (Cr p 0 ((Ac.length : Int) - 1)) fun ok =>
  if ok = true then
  (some 1)
  else
  (ix Ac p fun x =>
  if x ≠ kind then
  (some 8)
  else
  (some 0))
def I4 (wide : Int) (Ac : List Int) (Cw : Int) : Option (Int × (List Int) × Int) :=
  b1 (CR wide Ac) fun n =>
  if n ≠ 0 then
  (some (0, [], n))
  else
  (b1 (DE wide Ac Cw 0) fun n2 =>
  if n2 ≠ 0 then
  (some (0, [], n2))
  else
  (ap ([] : List Int) Ac fun l =>
  ix l Cw fun _x =>
  bv (l.set (Cw : Int).toNat 2) fun out =>
  some (wide, out, 0)))
def DA : Option Bool :=
  some true
def BE (s2 : List Int) : List Int → Int → Option Bool
  | [], _k =>
  DA
  | x :: aa, k =>
  ix s2 k fun x2 =>
  if x ≠ x2 then
  (some false)
  else
  (BE s2 aa (k + 1))
def CX (s1 s2 : List Int) : Option Bool :=
  if (s1.length : Int) ≠ (s2.length : Int) then
  (some false)
  else
  (BE s2 s1 0)
def FV (a b : List Int) : Option Bool :=
  b1 (CX a b) fun ok =>
  some ok
def Dz (wide : Int) (Ac : List Int) (ab : Int) (aa : List Int) : Option Bool :=
  if wide = ab then
  (b1 (FV Ac aa) fun ok =>
  some ok)
  else
  (some false)
def CV (wide : Int) (Ac : List Int) (AK AF Cw : Int) : Option Bool :=
  b1 (Ed wide Ac) fun ok =>
  if ok = true then
  (b1 (BL) fun aa =>
  some aa)
  else
  (b2 (D0 wide Ac) fun n l =>
  b2 (CG wide Ac) fun n2 l2 =>
  b1 (b1 (Ep n l) fun n3 =>
  b1 (CR n2 l2) fun n4 =>
  if n3 ≠ n4 then
  (some true)
  else
  (b1 (Fa AK AF) fun n5 =>
  b1 (Da AK AF) fun n6 =>
  some (decide (n5 ≠ n6)))) fun k =>
  if k = true then
  (some false)
  else
  (b3 (LI n l Cw) fun n7 l3 n8 =>
  b3 (I4 n2 l2 Cw) fun n9 l4 ab =>
  b1 (if n8 ≠ ab then
  (some true)
  else
  (if n7 ≠ n9 then
  (some true)
  else
  (b2 (CG n7 l3) fun _ah l5 =>
  b1 (Bk l5 l4) fun ad =>
  some (!ad)))) fun k2 =>
  if k2 = true then
  (some false)
  else
  (bv (List.replicate l3.length 0 : List Int) fun _u =>
  b1 (Dz n l wide Ac) fun ae =>
  if ae = true then
  (b1 (BL) fun af =>
  some af)
  else
  (some false))))
def DT (l : List Int) : Option (List Int) :=
  gd (0 ≤ (l.length : Int) ∧ (l.length : Int) ≤ 1048576) <|
  bv (List.replicate ((l.length : Int) : Int).toNat 0 : List Int) fun l2 =>
  bv (W1 l2 l) fun out =>
  some out
def FK (wide : Int) (Ac : List Int) (AK stand : Int) : Option Int :=
  b1 (CR wide Ac) fun n =>
  if n ≠ 0 then
  (some n)
  else
  (b1 (Cr AK 0 4) fun ok =>
  if ok = true then
  (some 3)
  else
  (b1 (DE wide Ac stand 0) fun n2 =>
  some n2))
def Fu (wide : Int) (Ac : List Int) (AK p q : Int) : Option Int :=
  b1 (gd (Cm ((Ac.length : Int) - 1)) <|
  b1 (Cr q 0 ((Ac.length : Int) - 1)) fun ok =>
  if ok = true then
  (some true)
  else
  (gd (Cm ((Ac.length : Int) - 1)) <|
  b1 (Cr p 0 ((Ac.length : Int) - 1)) fun aa =>
  if aa = true then
  (some true)
  else
  (ix Ac q fun x =>
  if x = 2 then
  (some true)
  else
  (ix Ac p fun x2 =>
  some (decide (x2 = 2)))))) fun k =>
  if k = true then
  (some 0)
  else
  (gd ((wide : Int) ≠ 0 ∧ Cm (Int.tdiv q wide)) <|
  gd ((wide : Int) ≠ 0 ∧ Cm (Int.tdiv p wide)) <|
  gd (Cm ((Int.tdiv q wide) - (Int.tdiv p wide))) <|
  bv ((Int.tdiv q wide) - (Int.tdiv p wide)) fun down =>
  gd (wide ≠ 0) <|
  gd (wide ≠ 0) <|
  gd (Cm ((Int.tmod q wide) - (Int.tmod p wide))) <|
  bv ((Int.tmod q wide) - (Int.tmod p wide)) fun Bb =>
  gd (Cm (down * down)) <|
  gd (Cm (Bb * Bb)) <|
  gd (Cm ((down * down) + (Bb * Bb))) <|
  if ((down * down) + (Bb * Bb)) ≠ 1 then
  (some 0)
  else
  (b1 (if AK = 1 then
  (gd (Cm (-down)) <|
  some (-down))
  else
  (if AK = 2 then
  (some Bb)
  else
  (if AK = 3 then
  (some down)
  else
  (if AK = 4 then
  (gd (Cm (-Bb)) <|
  some (-Bb))
  else
  (some 0))))) fun along =>
  b1 (if along = 1 then
  (some 1)
  else
  (some 2)) fun n =>
  b1 (if along = (-1) then
  (some 4)
  else
  (some n)) fun n2 =>
  ix Ac q fun x3 =>
  gd (Cm (n2 + (Int.tmod x3 2))) <|
  some (n2 + (Int.tmod x3 2))))
def Dc : Nat → (List Int) → Int → Option (List Int)
  | 0, _, _ => none
  | ad + 1, aa, p =>
  if p < (aa.length : Int) then
  (ix aa p fun _x =>
  bv (aa.set (p : Int).toNat (-1)) fun ab =>
  gd (Cm (p + 1)) <|
  Dc ad ab (p + 1))
  else
  (some aa)
def Di (wide : Int) (Ac : List Int) (AK p2 : Int) : Nat → (List Int) → Bool → Int → Option ((List Int) × Bool)
  | 0, _, _, _ => none
  | ae + 1, aa, ab, q =>
  if q < (aa.length : Int) then
  (b1 (Fu wide Ac AK p2 q) fun n2 =>
  b1 (if 0 < n2 then
  (ix aa p2 fun x3 =>
  if 0 ≤ x3 then
  (ix aa q fun x4 =>
  if x4 < 0 then
  (some true)
  else
  (gd (Cm (x3 + n2)) <|
  some (decide ((x3 + n2) < x4))))
  else
  (some false))
  else
  (some false)) fun k =>
  if k = true then
  (ix aa p2 fun x5 =>
  gd (Cm (x5 + n2)) <|
  ix aa q fun _x6 =>
  bv (aa.set (q : Int).toNat (x5 + n2)) fun ad =>
  gd (Cm (q + 1)) <|
  Di wide Ac AK p2 ae ad true (q + 1))
  else
  (gd (Cm (q + 1)) <|
  Di wide Ac AK p2 ae aa ab (q + 1)))
  else
  (some (aa, ab))
def DM (wide : Int) (Ac : List Int) (AK : Int) (ae : (List Int) → Bool → Option (List Int)) : Nat → (List Int) → Bool → Int → Option (List Int)
  | 0, _, _, _ => none
  | ah + 1, ad, aa, p2 =>
  if p2 < (ad.length : Int) then
  (b2 (Di wide Ac AK p2 FU ad aa 0) fun af ab =>
  gd (Cm (p2 + 1)) <|
  DM wide Ac AK ae ah af ab (p2 + 1))
  else
  (ae ad aa)
def Co (wide : Int) (Ac : List Int) (AK : Int) : Nat → (List Int) → Bool → Option (List Int)
  | 0, _, _ => none
  | ab + 1, aa, changed =>
  if changed = true then
  (DM wide Ac AK (Co wide Ac AK ab) FU aa false 0)
  else
  (some aa)
def EM (wide : Int) (Ac : List Int) (AK stand : Int) : Option ((List Int) × Int) :=
  b1 (FK wide Ac AK stand) fun n =>
  if n ≠ 0 then
  (some ([], n))
  else
  (gd (0 ≤ (Ac.length : Int) ∧ (Ac.length : Int) ≤ 1048576) <|
  bv (List.replicate ((Ac.length : Int) : Int).toNat 0 : List Int) fun l =>
  b1 (Dc FU l 0) fun out =>
  ix out stand fun _x2 =>
  bv (out.set (stand : Int).toNat 0) fun aa =>
  b1 (Co wide Ac AK FU aa true) fun ab =>
  some (ab, 0))
def Hr (wide : Int) (Ac : List Int) (AK stand Cw : Int) : Option (Int × Int) :=
  b2 (EM wide Ac AK stand) fun l n =>
  if n ≠ 0 then
  (some (0, n))
  else
  (gd (Cm ((Ac.length : Int) - 1)) <|
  b1 (Cr Cw 0 ((Ac.length : Int) - 1)) fun ok =>
  if ok = true then
  (some (0, 1))
  else
  (ix l Cw fun x =>
  if x < 0 then
  (some (0, 6))
  else
  (some (x, 0))))
def Ih (a aa : Int) : Option Bool :=
  some (decide (aa < a))
def Fx (a : Int) : Nat → Int → Option Bool
  | 0, aa =>
  Ih a aa
  | ab + 1, aa =>
  if a ≤ aa then
  (some false)
  else
  (gd (Cm (aa + 1)) <|
  Fx a ab (aa + 1))
def Jr (a b n : Int) : Option Bool :=
  gd (Cm 0 ∧ Cm n) <|
  Fx a (Int.toNat (n - 0)) b
def Ic (p : Int) (aa : Int → Option (Bool × Int)) : Option (Bool × Int) :=
  aa (p + 1)
def Fm (wide : Int) (Ac : List Int) (AK p x2 : Int) (aa : Int → Option (Bool × Int)) : List Int → Int → Option (Bool × Int)
  | [], _q =>
  Ic p aa
  | x3 :: ab, q =>
  b1 (Fu wide Ac AK p q) fun n2 =>
  b1 (if 0 < n2 then
  (b1 (Jr x3 x2 n2) fun ok =>
  some ok)
  else
  (some false)) fun k =>
  if k = true then
  (some (false, 0))
  else
  (Fm wide Ac AK p x2 aa ab (q + 1))
def Ii : Option (Bool × Int) :=
  some (true, 0)
def DJ (wide : Int) (Ac : List Int) (AK : Int) (table : List Int) : List Int → Int → Option (Bool × Int)
  | [], _p =>
  Ii
  | x2 :: aa, p =>
  Fm wide Ac AK p x2 (DJ wide Ac AK table aa) table 0
def Jo (wide : Int) (Ac : List Int) (AK stand : Int) (table : List Int) : Option (Bool × Int) :=
  b1 (FK wide Ac AK stand) fun n =>
  if n ≠ 0 then
  (some (false, n))
  else
  (if (table.length : Int) ≠ (Ac.length : Int) then
  (some (false, 2))
  else
  (ix table stand fun x =>
  if x ≠ 0 then
  (some (false, 0))
  else
  (DJ wide Ac AK table table 0)))
def EU (wide : Int) (Ac : List Int) (AK stand Cw : Int) (table : List Int) : Option Bool :=
  b1 (b1 (Ed wide Ac) fun ok =>
  if ok = true then
  (some true)
  else
  (some (decide (40 < (table.length : Int))))) fun k =>
  if k = true then
  (b1 (BL) fun aa =>
  some aa)
  else
  (b2 (D0 wide Ac) fun n l =>
  b1 (DT table) fun l2 =>
  b2 (CG wide Ac) fun n2 l3 =>
  b2 (JG n l AK stand Cw) fun n3 n4 =>
  b2 (Hr n2 l3 AK stand Cw) fun n5 n6 =>
  b1 (if n3 ≠ n5 then
  (some true)
  else
  (some (decide (n4 ≠ n6)))) fun k2 =>
  if k2 = true then
  (some false)
  else
  (b2 (Hm n l AK stand) fun l4 n7 =>
  b2 (EM n2 l3 AK stand) fun l5 n8 =>
  b1 (if n7 ≠ n8 then
  (some true)
  else
  (b1 (Bk l4 l5) fun ab =>
  some (!ab))) fun k3 =>
  if k3 = true then
  (some false)
  else
  (b2 (K5 n l AK stand l2) fun ad n9 =>
  b2 (Jo n2 l3 AK stand table) fun ae af =>
  if ad = ae then
  (if n9 = af then
  (b1 (Dz n l wide Ac) fun ah =>
  if ah = true then
  (b1 (Bk l2 table) fun ai =>
  if ai = true then
  (b1 (BL) fun aj =>
  some aj)
  else
  (some false))
  else
  (some false))
  else
  (some false))
  else
  (some false))))
def G6 (x2 : Int) : List (Int × Int) → Int → Option Int
  | [], aa =>
  some aa
  | x4 :: ab, aa =>
  if x4.1 = x2 then
  (G6 x2 ab x4.2)
  else
  (G6 x2 ab aa)
def Kk (k : Int) (aa : Int → Int → Option (Int × Int)) (ab : Int) : Option (Int × Int) :=
  aa (k + 1) ab
def Kt (sum : Int) : Option (Int × Int) :=
  some (sum, 0)
def G3 (HR : List Int) (d : Option (Int × (List Int) × Int × Int × Bool)) : List Int → Int → Int → Option (Int × Int)
  | [], _k, ab =>
  Kt ab
  | x2 :: af, k, ab =>
  b1 (ix HR k fun x3 =>
  b5 d fun ae ad down Bb BW =>
  b1 (Ew ae ad down Bb BW x3) fun y =>
  G6 x2 y (-1)) fun aa =>
  if aa = (-1) then
  (some (0, 8))
  else
  (gd (Cm (ab + aa)) <|
  Kk k (G3 HR d af) (ab + aa))
def Mz (wide : Int) (Ac : List Int) (AK : Int) (HR : List Int) : Option (Int × Int) :=
  b2 (GD wide Ac AK) fun d n =>
  if n ≠ 0 then
  (some (0, n))
  else
  (if (HR.length : Int) = 0 then
  (some (0, 2))
  else
  (ix HR 0 fun x =>
  b1 (D9 wide Ac x 0) fun n2 =>
  if n2 ≠ 0 then
  (some (0, 8))
  else
  (gd ((0 ≤ (1 : Int) ∧ (1 : Int) ≤ (HR.length : Int)) ∧ (HR.length : Int) ≤ HR.length) <|
  bv (sl HR 1 (HR.length : Int)) fun aa =>
  G3 HR d aa 0 0)))
def Ig (sum : Int) : Option (Int × Int) :=
  some (sum, 0)
def Fv (wide : Int) (Ac : List Int) (AK : Int) (HR : List Int) : Nat → Int → Int → Option (Int × Int)
  | 0, _i, aa =>
  Ig aa
  | ab + 1, i, aa =>
  gd (Cm (i - 1)) <|
  ix HR (i - 1) fun x2 =>
  ix HR i fun x3 =>
  b1 (Fu wide Ac AK x2 x3) fun n3 =>
  if n3 = 0 then
  (some (0, 8))
  else
  (gd (Cm (aa + n3)) <|
  Fv wide Ac AK HR ab (i + 1) (aa + n3))
def HY (wide : Int) (Ac : List Int) (AK : Int) (HR : List Int) : Option (Int × Int) :=
  b1 (CR wide Ac) fun n =>
  if n ≠ 0 then
  (some (0, n))
  else
  (b1 (Cr AK 0 4) fun ok =>
  if ok = true then
  (some (0, 3))
  else
  (if (HR.length : Int) = 0 then
  (some (0, 2))
  else
  (ix HR 0 fun x =>
  b1 (DE wide Ac x 0) fun n2 =>
  if n2 ≠ 0 then
  (some (0, 8))
  else
  (gd (Cm 1 ∧ Cm (HR.length : Int)) <|
  Fv wide Ac AK HR (Int.toNat ((HR.length : Int) - 1)) 1 0))))
def FA (wide : Int) (Ac HR : List Int) (n : Int) (l l2 : List Int) : Option Bool :=
  b1 (Dz n l wide Ac) fun aa =>
  if aa = true then
  (b1 (Bk l2 HR) fun ab =>
  if ab = true then
  (b1 (BL) fun ad =>
  some ad)
  else
  (some false))
  else
  (some false)
def Fy (wide : Int) (Ac : List Int) (AK stand Cw : Int) (HR : List Int) : Option Bool :=
  b1 (b1 (Ed wide Ac) fun ok =>
  if ok = true then
  (some true)
  else
  (some (decide (60 < (HR.length : Int))))) fun k =>
  if k = true then
  (b1 (BL) fun aa =>
  some aa)
  else
  (b2 (D0 wide Ac) fun n l =>
  b1 (DT HR) fun l2 =>
  b2 (CG wide Ac) fun n2 l3 =>
  b2 (Mz n l AK l2) fun n3 n4 =>
  b2 (HY n2 l3 AK HR) fun n5 n6 =>
  b1 (if n3 ≠ n5 then
  (some true)
  else
  (some (decide (n4 ≠ n6)))) fun k2 =>
  if k2 = true then
  (some false)
  else
  (b2 (KC n l AK stand Cw) fun l4 n7 =>
  b2 (Hr n2 l3 AK stand Cw) fun n8 n9 =>
  b1 (if n7 ≠ n9 then
  (some true)
  else
  (if n7 ≠ 0 then
  (some (decide (0 < (l4.length : Int))))
  else
  (some false))) fun k3 =>
  if k3 = true then
  (some false)
  else
  (if n7 = 0 then
  (b2 (HY n2 l3 AK l4) fun ab ad =>
  b1 (if ad ≠ 0 then
  (some true)
  else
  (if ab ≠ n8 then
  (some true)
  else
  (ix l4 0 fun x =>
  if x ≠ stand then
  (some true)
  else
  (gd (Cm ((l4.length : Int) - 1)) <|
  ix l4 ((l4.length : Int) - 1) fun x2 =>
  some (decide (x2 ≠ Cw)))))) fun k4 =>
  if k4 = true then
  (some false)
  else
  FA wide Ac HR n l l2)
  else
  FA wide Ac HR n l l2)))
def CI (Ac : List Int) (AF s_ : Int) : List Int → Int → Lw → Option Lw
  | [], _p, aa =>
  some aa
  | x2 :: ad, p, aa =>
  b1 (ix Ac p fun x3 =>
  if x3 = 1 then
  (if 0 ≤ x2 then
  (some (decide (x2 ≤ AF)))
  else
  (some false))
  else
  (some false)) fun k =>
  if k = true then
  (ix aa p fun x4 =>
  ap x4 [s_] fun l3 =>
  bv (aa.set (p : Int).toNat l3) fun ab =>
  CI Ac AF s_ ad (p + 1) ab)
  else
  (CI Ac AF s_ ad (p + 1) aa)
def Du (wide : Int) (Ac : List Int) (AK AF : Int) : List Int → Int → Lw → Option Lw
  | [], _s_, aa =>
  some aa
  | x :: ad, s_, aa =>
  b1 (if x ≠ 0 then
  (some aa)
  else
  (b2 (EM wide Ac AK s_) fun l2 _n =>
  CI Ac AF s_ l2 0 aa)) fun ab =>
  Du wide Ac AK AF ad (s_ + 1) ab
def D6 (wide : Int) (Ac : List Int) (AK AF : Int) : Option Lw :=
  gd (0 ≤ (Ac.length : Int) ∧ (Ac.length : Int) ≤ 1048576) <|
  bv (List.replicate ((Ac.length : Int) : Int).toNat [] : Lw) fun l =>
  b1 (Du wide Ac AK AF Ac 0 l) fun out =>
  some out
def GC (Ac : List Int) (AF : Int) : List Int → Int → (List Int) → Option (List Int)
  | [], _k, aa =>
  some aa
  | x :: ad, k, aa =>
  b1 (ix Ac k fun x2 =>
  if x2 = 1 then
  (b1 (GM x 0 AF) fun ok =>
  some ok)
  else
  (some false)) fun k2 =>
  if k2 = true then
  (ap aa [k] fun ab =>
  GC Ac AF ad (k + 1) ab)
  else
  (GC Ac AF ad (k + 1) aa)
def LO (wide : Int) (Ac : List Int) (AK AF stand : Int) : Option ((List Int) × Int) :=
  b1 (Ep wide Ac) fun n =>
  if n ≠ 0 then
  (some ([], n))
  else
  (b1 (Fa AK AF) fun n2 =>
  if n2 ≠ 0 then
  (some ([], n2))
  else
  (b2 (Hm wide Ac AK stand) fun l n3 =>
  if n3 ≠ 0 then
  (some ([], n3))
  else
  (b1 (GC Ac AF l 0 []) fun out =>
  some (out, 0))))
def C1 (x : List Bool) : Nat → Int → (List Int) → Option (List Int)
  | 0, _k, aa =>
  some aa
  | ad + 1, k, aa =>
  ix x k fun x2 =>
  if x2 = true then
  (ap aa [k] fun ab =>
  C1 x ad (k + 1) ab)
  else
  (C1 x ad (k + 1) aa)
def Fp (x : List Bool) : Option (List Int) :=
  b1 (gd (Cm 0 ∧ Cm 30) <|
  C1 x (Int.toNat (30 - 0)) 0 []) fun out =>
  some out
def Lz (wide : Int) (Ac : List Int) (AK AF BQ : Int) : Option ((List Int) × Int) :=
  b2 (Ib wide Ac AK AF) fun l n =>
  if n ≠ 0 then
  (some ([], n))
  else
  (b1 (D9 wide Ac BQ 1) fun n2 =>
  if n2 ≠ 0 then
  (some ([], n2))
  else
  (ix l BQ fun x =>
  b1 (Fp x) fun l2 =>
  some (l2, 0)))
def Hw (l : List (List Bool)) : List Int → Int → (List Int) → Option (List Int)
  | [], _k, aa =>
  some aa
  | x :: ad, k, aa =>
  b1 (if x = 1 then
  (ix l k fun x2 =>
  some (decide (x2 = (List.replicate 30 false))))
  else
  (some false)) fun k2 =>
  if k2 = true then
  (ap aa [k] fun ab =>
  Hw l ad (k + 1) ab)
  else
  (Hw l ad (k + 1) aa)
def NL (wide : Int) (Ac : List Int) (AK AF : Int) : Option ((List Int) × Int) :=
  b2 (Ib wide Ac AK AF) fun l n =>
  if n ≠ 0 then
  (some ([], n))
  else
  (b1 (Hw l Ac 0 []) fun out =>
  some (out, 0))
def Js (wide : Int) (Ac : List Int) (AK AF stand BQ : Int) : Option Bool :=
  b2 (Hr wide Ac AK stand BQ) fun n n2 =>
  if n2 = 0 then
  (some (decide (n ≤ AF)))
  else
  (some false)
def G4 (wide : Int) (Ac : List Int) (AF stand BQ : Int) : Nat → (List Int) → Int → Option (List Int)
  | 0, _, _ => none
  | ad + 1, aa, w =>
  if w ≤ 4 then
  (b2 (JG wide Ac w stand BQ) fun n5 n6 =>
  b1 (if n6 = 0 then
  (some (decide (n5 ≤ AF)))
  else
  (some false)) fun k2 =>
  if k2 = true then
  (ap aa [w] fun ab =>
  gd (Cm (w + 1)) <|
  G4 wide Ac AF stand BQ ad ab (w + 1))
  else
  (gd (Cm (w + 1)) <|
  G4 wide Ac AF stand BQ ad aa (w + 1)))
  else
  (some aa)
def Kq (wide : Int) (Ac : List Int) (AF stand BQ : Int) : Option ((List Int) × Int) :=
  b1 (G4 wide Ac AF stand BQ FU [] 0) fun out =>
  some (out, 0)
def HQ (wide : Int) (Ac : List Int) (AF stand BQ n3 n4 : Int) : Nat → Int → Option ((List Int) × Int)
  | 0, _k =>
  Kq wide Ac AF stand BQ
  | aa + 1, k =>
  ix ([n3, n4] : List Int) k fun x =>
  if x ≠ 0 then
  (some ([], x))
  else
  (HQ wide Ac AF stand BQ n3 n4 aa (k + 1))
def MB (wide : Int) (Ac : List Int) (AF stand BQ : Int) : Option ((List Int) × Int) :=
  b1 (Ep wide Ac) fun n =>
  if n ≠ 0 then
  (some ([], n))
  else
  (b1 (Fa 0 AF) fun n2 =>
  if n2 ≠ 0 then
  (some ([], n2))
  else
  (b1 (D9 wide Ac stand 0) fun n3 =>
  b1 (D9 wide Ac BQ 1) fun n4 =>
  gd (Cm 0 ∧ Cm 2) <|
  HQ wide Ac AF stand BQ n3 n4 (Int.toNat (2 - 0)) 0))
def DW : Option Bool :=
  some true
def Cb (s2 : List Int) : List Int → Int → Option Bool
  | [], _k =>
  DW
  | x :: aa, k =>
  ix s2 k fun x2 =>
  if x ≠ x2 then
  (some false)
  else
  (Cb s2 aa (k + 1))
def El (s1 s2 : List Int) : Option Bool :=
  if (s1.length : Int) ≠ (s2.length : Int) then
  (some false)
  else
  (Cb s2 s1 0)
def IT (a b : List Int) : Option Bool :=
  b1 (El a b) fun ok =>
  some ok
def C5 (stand BQ k : Int) (aa : List Int) : List Int → (List Int) → (List Int) → Option ((List Int) × (List Int) × (List Int))
  | [], ab, ad =>
  some (ab, ad, aa)
  | x3 :: ai, ab, ad =>
  b1 (if x3 = stand then
  (ap ab [k] fun af =>
  some af)
  else
  (some ab)) fun ae =>
  if k = BQ then
  (ap ad [x3] fun ah =>
  C5 stand BQ k aa ai ae ah)
  else
  (C5 stand BQ k aa ai ae ad)
def DO (stand BQ : Int) (l2 : List Int) (n5 n6 : Int) : Lw → Int → (List Int) → (List Int) → (List Int) → Option ((List Int) × (List Int) × (List Int) × (List Int) × Int × Int)
  | [], _k, ab, ad, aa =>
  some (l2, ab, ad, aa, n5, n6)
  | x :: ak, k, ab, ad, aa =>
  b3 (ix l2 k fun x2 =>
  if x2 ≠ 1 then
  (some (ab, ad, aa))
  else
  (b1 (if (x.length : Int) = 0 then
  (ap aa [k] fun ae =>
  some ae)
  else
  (some aa)) fun af =>
  C5 stand BQ k af x ab ad)) fun ai aj ah =>
  DO stand BQ l2 n5 n6 ak (k + 1) ai aj ah
def C6 (AF stand BQ n2 : Int) (aa : List Int) (w3 : Int) : Nat → Int → (List Int) → Option (List Int)
  | 0, _k4, ab =>
  some ab
  | ae + 1, k4, ab =>
  b1 (if w3 = 0 then
  (b1 (Js n2 aa k4 AF stand BQ) fun af =>
  some af)
  else
  (some false)) fun k5 =>
  if k5 = true then
  (ap ab [k4] fun ad =>
  C6 AF stand BQ n2 aa w3 ae (k4 + 1) ad)
  else
  (C6 AF stand BQ n2 aa w3 ae (k4 + 1) ab)
def Dj (wide : Int) (Ac : List Int) (AK AF stand BQ : Int) : Option Bool :=
  b1 (Ed wide Ac) fun ok =>
  if ok = true then
  (b1 (BL) fun ai =>
  some ai)
  else
  (b2 (D0 wide Ac) fun n l =>
  b2 (CG wide Ac) fun n2 l2 =>
  b1 (CR n2 l2) fun n3 =>
  b1 (if n3 = 0 then
  (b1 (Da AK AF) fun n4 =>
  some n4)
  else
  (some n3)) fun w =>
  b6 (if w = 0 then
  (b1 (DE n2 l2 stand 0) fun n5 =>
  b1 (DE n2 l2 BQ 1) fun n6 =>
  b1 (D6 n2 l2 AK AF) fun l3 =>
  DO stand BQ l2 n5 n6 l3 0 [] [] [])
  else
  (some (l2, [], [], [], w, w))) fun aa aj ak none_ u v =>
  b1 (if u ≠ 0 then
  (some [])
  else
  (some aj)) fun ad =>
  b1 (if v ≠ 0 then
  (some [])
  else
  (some ak)) fun ae =>
  b2 (LO n l AK AF stand) fun l4 n7 =>
  b2 (Lz n l AK AF BQ) fun l5 n8 =>
  b2 (NL n l AK AF) fun l6 n9 =>
  b1 (if n7 ≠ u then
  (some true)
  else
  (if n8 ≠ v then
  (some true)
  else
  (if n9 ≠ w then
  (some true)
  else
  (b1 (Bk l4 ad) fun ao =>
  if (!ao) = true then
  (some true)
  else
  (b1 (Bk l5 ae) fun aq =>
  if (!aq) = true then
  (some true)
  else
  (b1 (Bk l6 none_) fun ar =>
  some (!ar))))))) fun k3 =>
  if k3 = true then
  (some false)
  else
  (b1 (b1 (CR n2 aa) fun af =>
  if af = 0 then
  (b1 (Da 0 AF) fun au =>
  some au)
  else
  (some af)) fun w2 =>
  b1 (if w2 = 0 then
  (b1 (DE n2 aa stand 0) fun ah =>
  if ah = 0 then
  (b1 (DE n2 aa BQ 1) fun av =>
  some av)
  else
  (some ah))
  else
  (some w2)) fun w3 =>
  b1 (gd (Cm 0 ∧ Cm 5) <|
  C6 AF stand BQ n2 aa w3 (Int.toNat (5 - 0)) 0 []) fun ab =>
  b2 (MB n l AF stand BQ) fun l7 aw =>
  if aw = w3 then
  (b1 (IT l7 ab) fun ax =>
  if ax = true then
  (b1 (Dz n l wide Ac) fun ay =>
  if ay = true then
  (b1 (BL) fun az =>
  some az)
  else
  (some false))
  else
  (some false))
  else
  (some false)))
def B3 : List Int → Int → Option Int
  | [], n2 =>
  some n2
  | x :: aa, n2 =>
  if x = 0 then
  (gd (Cm (n2 + 1)) <|
  B3 aa (n2 + 1))
  else
  (B3 aa n2)
def Gv (wide : Int) (Ac : List Int) (most : Int) : Option Bool :=
  b1 (B3 Ac 0) fun n =>
  b1 (Ed wide Ac) fun ok =>
  if ok = true then
  (some true)
  else
  (if most < n then
  (some (decide ((Ac.length : Int) ≤ 30)))
  else
  (some false))
def Hu : Option Bool :=
  some false
def Em (n : Int) : List Int → Option Bool
  | [] =>
  Hu
  | x :: aa =>
  if x = n then
  (some true)
  else
  (Em n aa)
def Eu (l : List Int) (n : Int) : Option Bool :=
  Em n l
def Ie : Option Int :=
  some 0
def Db (wide : Int) (Ac AI : List Int) : List Int → Int → Option Int
  | [], _i =>
  Ie
  | x :: ab, i =>
  b1 (DE wide Ac x 1) fun n3 =>
  if n3 ≠ 0 then
  (some n3)
  else
  (gd ((0 ≤ (0 : Int) ∧ (0 : Int) ≤ i) ∧ i ≤ AI.length) <|
  bv (sl AI 0 i) fun aa =>
  b1 (Eu aa x) fun ok =>
  if ok = true then
  (some 5)
  else
  (Db wide Ac AI ab (i + 1)))
def DG (wide : Int) (Ac : List Int) (AK AF : Int) (AI : List Int) : Option Int :=
  b1 (CR wide Ac) fun n =>
  if n ≠ 0 then
  (some n)
  else
  (b1 (Da AK AF) fun n2 =>
  if n2 ≠ 0 then
  (some n2)
  else
  (Db wide Ac AI AI 0))
def II : Option Bool :=
  some false
def EG (Bl : Lw) : List Int → Option Bool
  | [] =>
  II
  | x :: aa =>
  ix Bl x fun x2 =>
  if (x2.length : Int) = 0 then
  (some true)
  else
  (EG Bl aa)
def Gu (Bl : Lw) (AI : List Int) : Option Bool :=
  EG Bl AI
def CU (x : Int) : Lw → Lw → Option Lw
  | [], aa =>
  some aa
  | x2 :: ab, aa =>
  ap [x] x2 fun l2 =>
  ap aa [l2] fun l3 =>
  CU x ab l3
def CB (ab : List Int) (many : Int) (rec_ : (List Int) → Int → Option (Lw)) : List Int → Int → Lw → Option Lw
  | [], _i, aa =>
  some aa
  | x :: af, i, aa =>
  b1 (gd ((0 ≤ (i + 1) ∧ (i + 1) ≤ (ab.length : Int)) ∧ (ab.length : Int) ≤ ab.length) <|
  bv (sl ab (i + 1) (ab.length : Int)) fun ad =>
  gd (Cm (many - 1)) <|
  b1 (rec_ ad (many - 1)) fun l =>
  CU x l aa) fun ae =>
  CB ab many rec_ af (i + 1) ae
def Gk (rec_ : (List Int) → Int → Option (Lw)) (aa : List Int) (many : Int) : Option Lw :=
  if many = 0 then
  (some [[]])
  else
  (b1 (CB aa many rec_ aa 0 []) fun out =>
  some out)
def CC : Nat → (List Int) → Int → Option Lw
  | 0, _, _ => none
  | fu + 1, aa, many =>
  Gk (CC fu) aa many
def Cj : List Int → Int → (List Int) → Option (List Int)
  | [], _p, aa =>
  some aa
  | x :: ad, p, aa =>
  if x = 0 then
  (ap aa [p] fun ab =>
  Cj ad (p + 1) ab)
  else
  (Cj ad (p + 1) aa)
def D3 (_wide : Int) (Ac : List Int) : Option (List Int) :=
  b1 (Cj Ac 0 []) fun out =>
  some out
def CA (Bl : Lw) (x : Int) : List Int → Bool → Option Bool
  | [], aa =>
  some aa
  | x2 :: ab, aa =>
  if aa = true then
  (CA Bl x ab true)
  else
  (ix Bl x fun x3 =>
  b1 (Eu x3 x2) fun ok =>
  CA Bl x ab ok)
def CT (Bl : Lw) (BC : List Int) : List Int → Int → Option Int
  | [], n2 =>
  some n2
  | x :: aa, n2 =>
  b1 (b1 (CA Bl x BC false) fun ab =>
  if ab = true then
  (gd (Cm (n2 + 1)) <|
  some (n2 + 1))
  else
  (some n2)) fun n3 =>
  CT Bl BC aa n3
def DV (Bl : Lw) (AI BC : List Int) : Option Int :=
  b1 (CT Bl BC AI 0) fun n =>
  some n
def ER (many : Int) (aa : Int → Option ((List Int) × Int)) : Option ((List Int) × Int) :=
  gd (Cm (many + 1)) <|
  aa (many + 1)
def Cx (AI : List Int) (l : Lw) (many : Int) (aa : Int → Option ((List Int) × Int)) : Lw → Option ((List Int) × Int)
  | [] =>
  ER many aa
  | x :: ab =>
  b1 (DV l AI x) fun n2 =>
  if n2 = (AI.length : Int) then
  (some (x, 0))
  else
  (Cx AI l many aa ab)
def Ca (wide : Int) (Ac AI : List Int) (l : Lw) : Nat → Int → Option ((List Int) × Int)
  | 0, _ => none
  | aa + 1, many =>
  b1 (D3 wide Ac) fun l2 =>
  b1 (CC FU l2 many) fun l3 =>
  Cx AI l many (Ca wide Ac AI l aa) l3
def DP (wide : Int) (Ac : List Int) (AK AF : Int) (AI : List Int) : Option ((List Int) × Int) :=
  b1 (DG wide Ac AK AF AI) fun n =>
  if n ≠ 0 then
  (some ([], n))
  else
  (b1 (D6 wide Ac AK AF) fun l =>
  b1 (Gu l AI) fun ok =>
  if ok = true then
  (some ([], 6))
  else
  (Ca wide Ac AI l FU 0))
def HM (x : Int) : Option Bool :=
  some (decide (x ≠ x))
def Iz (x y : Int) : Option Bool :=
  b1 (HM x) fun ok =>
  if ok = true then
  (b1 (HM y) fun aa =>
  if (!aa) = true then
  (some true)
  else
  (some (decide (x < y))))
  else
  (some (decide (x < y)))
def Bp (a : Int) : Nat → (List Int) → Int → Option (List Int)
  | 0, _, _ => none
  | ab + 1, aa, j =>
  b1 (if a < j then
  (ix aa j fun x =>
  gd (Cm (j - 1)) <|
  ix aa (j - 1) fun x2 =>
  b1 (Iz x x2) fun ok =>
  some ok)
  else
  (some false)) fun k =>
  if k = true then
  (gd (Cm (j - 1)) <|
  gd (Cm (j - 1)) <|
  ix aa (j - 1) fun x3 =>
  ix aa j fun x4 =>
  bv (aa.set (j : Int).toNat x3) fun l =>
  ix l (j - 1) fun _x5 =>
  bv (l.set (j - 1 : Int).toNat x4) fun l2 =>
  gd (Cm (j - 1)) <|
  Bp a ab l2 (j - 1))
  else
  (some aa)
def By (a : Int) : Nat → Int → (List Int) → Option (List Int)
  | 0, _i, data =>
  some data
  | ab + 1, i, data =>
  b1 (Bp a FU data i) fun aa =>
  By a ab (i + 1) aa
def Cu (s_ : List Int) (a b : Int) : Option (List Int) :=
  gd (Cm (a + 1)) <|
  gd (Cm (a + 1) ∧ Cm b) <|
  By a (Int.toNat (b - (a + 1))) (a + 1) s_
def Jq (x : Int) : Option Int :=
  b2 (if 4294967296 ≤ x then
  (some (shr x 32, 32))
  else
  (some (x, 0))) fun x2 n =>
  b2 (if 65536 ≤ x2 then
  (gd (Cm (n + 16)) <|
  some (shr x2 16, n + 16))
  else
  (some (x2, n))) fun x3 n2 =>
  b2 (if 256 ≤ x3 then
  (gd (Cm (n2 + 8)) <|
  some (shr x3 8, n2 + 8))
  else
  (some (x3, n2))) fun x4 n3 =>
  ix R4 (x4 % 256) fun x5 =>
  gd (Cm x5) <|
  gd (Cm (n3 + x5)) <|
  some (n3 + x5)
def HK (x : Int) : Option Int :=
  b1 (Jq x) fun n =>
  some n
def B7 (s_ : List Int) (a b : Int) : Nat → Option (List Int)
  | 0 => none
  | _ab + 1 =>
  gd (Cm (b - a)) <|
  gd ((b - a) ≤ 12) <|
  b1 (Cu s_ a b) fun aa =>
  some aa
def Ea (_rec_ : (List Int) → Int → Int → Int → Option ((List Int))) (s_ : List Int) (a b _aa : Int) : Option (List Int) :=
  B7 s_ a b FU
def BV : Nat → (List Int) → Int → Int → Int → Option (List Int)
  | 0, _, _, _, _ => none
  | fu + 1, s_, a, b, aa =>
  Ea (BV fu) s_ a b aa
def Eb (s_ : List Int) : Option (List Int) :=
  b1 (HK ((s_.length : Int) % 18446744073709551616)) fun n =>
  b1 (BV FU s_ 0 (s_.length : Int) n) fun aa =>
  some aa
def BA (k : Int) : Nat → (List Int) → Int → Int → Option ((List Int) × Int)
  | 0, _, _, _ => none
  | ad + 1, ab, k3, aa =>
  if aa < ((ab.length - Int.toNat k : Nat) : Int) then
  (ix (ab.drop (Int.toNat k)) aa fun x3 =>
  gd (Cm (aa - 1)) <|
  ix (ab.drop (Int.toNat k)) (aa - 1) fun x4 =>
  if x3 ≠ x4 then
  (ix ab k3 fun _x5 =>
  bv (ab.set (k3 : Int).toNat x3) fun ae =>
  gd (Cm (k3 + 1)) <|
  gd (Cm (aa + 1)) <|
  BA k ad ae (k3 + 1) (aa + 1))
  else
  (gd (Cm (aa + 1)) <|
  BA k ad ab k3 (aa + 1)))
  else
  (some (ab, k3))
def Eh (k : Int) (aa : Int → Option (List Int)) : Option (List Int) :=
  aa (k + 1)
def Eg (s_ : List Int) : Option (List Int) :=
  some s_
def BG (s_ : List Int) : Nat → Int → Option (List Int)
  | 0, _k =>
  Eg s_
  | ad + 1, k =>
  ix s_ k fun x =>
  gd (Cm (k - 1)) <|
  ix s_ (k - 1) fun x2 =>
  if x = x2 then
  (gd (0 ≤ k ∧ k ≤ (s_.length : Int)) <|
  b2 (BA k FU s_ k 1) fun aa k2 =>
  gd (0 ≤ k2 ∧ k2 ≤ (aa.length : Int)) <|
  bv (aa.take (Int.toNat k2) ++ List.replicate (aa.length - Int.toNat k2) 0 : List Int) fun ab =>
  gd ((0 ≤ (0 : Int) ∧ (0 : Int) ≤ k2) ∧ k2 ≤ ab.length) <|
  bv (sl ab 0 k2) fun ae =>
  some ae)
  else
  Eh k (BG s_ ad)
def D2 (s_ : List Int) : Option (List Int) :=
  if (s_.length : Int) < 2 then
  (some s_)
  else
  (gd (Cm 1 ∧ Cm (s_.length : Int)) <|
  BG s_ (Int.toNat ((s_.length : Int) - 1)) 1)
def D5 : List (List Bool) → (List Int) → Option (List Int)
  | [], aa =>
  some aa
  | x :: ad, aa =>
  b1 (Fp x) fun l2 =>
  if (l2.length : Int) = 1 then
  (ix l2 0 fun x2 =>
  ap aa [x2] fun ab =>
  D5 ad ab)
  else
  (D5 ad aa)
def Hz (wide : Int) (Ac : List Int) (AK AF : Int) (AI : List Int) : Option ((List Int) × Int) :=
  b3 (Ft wide Ac AK AF AI) fun l y n =>
  if n ≠ 0 then
  (some ([], n))
  else
  (gd (y = true) <|
  b1 (EH l (fun aa : Int => Dw aa)) fun ok =>
  if ok = true then
  (some ([], 6))
  else
  (b1 (D5 l []) fun out =>
  b1 (Eb out) fun s_ =>
  b1 (D2 s_) fun l3 =>
  some (l3, 0)))
def CJ (AI : List Int) (l : Lw) (l2 : List Int) : List Int → Int → (List Int) → Option (List Int)
  | [], _i, aa =>
  some aa
  | x :: af, i, aa =>
  gd ((0 ≤ (0 : Int) ∧ (0 : Int) ≤ i) ∧ i ≤ l2.length) <|
  bv (sl l2 0 i) fun ab =>
  gd ((0 ≤ (i + 1) ∧ (i + 1) ≤ (l2.length : Int)) ∧ (l2.length : Int) ≤ l2.length) <|
  bv (sl l2 (i + 1) (l2.length : Int)) fun ad =>
  ap ([] : List Int) ab fun l3 =>
  ap l3 ad fun l4 =>
  b1 (DV l AI l4) fun n2 =>
  if n2 < (AI.length : Int) then
  (ap aa [x] fun ae =>
  CJ AI l l2 af (i + 1) ae)
  else
  (CJ AI l l2 af (i + 1) aa)
def Ez (wide : Int) (Ac : List Int) (AK AF : Int) (AI : List Int) : Option ((List Int) × Int) :=
  b1 (DG wide Ac AK AF AI) fun n =>
  if n ≠ 0 then
  (some ([], n))
  else
  (b1 (D6 wide Ac AK AF) fun l =>
  b1 (Gu l AI) fun ok =>
  if ok = true then
  (some ([], 6))
  else
  (b1 (D3 wide Ac) fun l2 =>
  b1 (CJ AI l l2 l2 0 []) fun out =>
  some (out, 0)))
def BI : List Int → (List Int) → Option (List Int)
  | [], aa =>
  some aa
  | x :: ab, aa =>
  ap aa [x] fun ad =>
  BI ab ad
def Ev (s_ seq : List Int) : Option (List Int) :=
  b1 (BI seq s_) fun aa =>
  some aa
def GJ (seq : List Int) : Option (List Int) :=
  b1 (Ev [] seq) fun l =>
  some l
def FM (seq : List Int) : Option (List Int) :=
  b1 (GJ seq) fun l =>
  b1 (Eb l) fun s_ =>
  some s_
def B6 : List Int → Option (List Int)
  | [] =>
  some []
  | x :: aa =>
  yl x <|
  B6 aa
def ED (s_ : List Int) : Option (List Int) :=
  B6 s_
def Dy (s_ : List Int) : Option (List Int) :=
  b1 (ED s_) fun l =>
  some l
def Dd (s_ : List Int) : Option (List Int) :=
  Oe (s_ = []) (some []) (ap ([] : List Int) s_ fun l =>
  some l)
def E0 : Option Int :=
  some (-1)
def BZ (f : Int → Option Bool) : List Int → Int → Option Int
  | [], _k =>
  E0
  | x :: aa, k =>
  b1 (f x) fun ok =>
  if ok = true then
  (some k)
  else
  (BZ f aa (k + 1))
def Et (s_ : List Int) (f : Int → Option Bool) : Option Int :=
  BZ f s_ 0
def CY (s_ : List Int) (f : Int → Option Bool) : Option Bool :=
  b1 (Et s_ f) fun n =>
  some (decide (0 ≤ n))
def Gp (x : Int) (so : Int → Option Bool) : Option Bool :=
  b1 (so x) fun ok =>
  some (!ok)
def Gx (l : List Int) (so : Int → Option Bool) : Option Bool :=
  b1 (CY l (fun aa : Int => Gp aa so)) fun ok =>
  some (!ok)
def HJ : Option Bool :=
  some false
def CW (x y : List Bool) : Nat → Int → Option Bool
  | 0, _k =>
  HJ
  | aa + 1, k =>
  b1 (ix x k fun x2 =>
  if x2 = true then
  (ix y k fun x3 =>
  some x3)
  else
  (some false)) fun k2 =>
  if k2 = true then
  (some true)
  else
  (CW x y aa (k + 1))
def Gl (x y : List Bool) : Option Bool :=
  gd (Cm 0 ∧ Cm 30) <|
  CW x y (Int.toNat (30 - 0)) 0
def Gy (k : Int) (Bl : List (List Bool)) (_count : Int → Option Int) (i : Int) : Option Bool :=
  ix Bl k fun x =>
  ix Bl i fun x2 =>
  b1 (Gl x x2) fun ok =>
  some (!ok)
def DR (l own : List Int) (Bl : List (List Bool)) (count : Int → Option Int) (rec_ : (List Int) → Int → (List Int) → (List Int) → (List (List Bool)) → (Int → Option Int) → Option ((List Int))) : Nat → (List Int) → Int → Option (List Int)
  | 0, _, _ => none
  | ae + 1, aa, i =>
  if i < (own.length : Int) then
  (b1 (b1 (Gx l (fun af : Int => Gy af Bl count i)) fun ok =>
  if ok = true then
  (gd (Cm (i + 1)) <|
  b1 (Dd l) fun l3 =>
  ap l3 [i] fun l4 =>
  b1 (rec_ l4 (i + 1) aa own Bl count) fun ab =>
  some ab)
  else
  (some aa)) fun ad =>
  gd (Cm (i + 1)) <|
  DR l own Bl count rec_ ae ad (i + 1))
  else
  (some aa)
def I8 (rec_ : (List Int) → Int → (List Int) → (List Int) → (List (List Bool)) → (Int → Option Int) → Option ((List Int))) (l : List Int) (from_ : Int) (out own : List Int) (Bl : List (List Bool)) (count : Int → Option Int) : Option (List Int) :=
  b1 (if (out.length : Int) < (l.length : Int) then
  (b1 (Dd l) fun l2 =>
  some l2)
  else
  (some out)) fun aa =>
  DR l own Bl count rec_ FU aa from_
def Gc : Nat → (List Int) → Int → (List Int) → (List Int) → (List (List Bool)) → (Int → Option Int) → Option (List Int)
  | 0, _, _, _, _, _, _ => none
  | fu + 1, l, from_, out, own, Bl, count =>
  I8 (Gc fu) l from_ out own Bl count
def E8 (l : List Int) : Nat → Int → (List Int) → Option (List Int)
  | 0, _k, aa =>
  some aa
  | ab + 1, k, aa =>
  ix aa k fun x =>
  ix l x fun x2 =>
  bv (aa.set (k : Int).toNat x2) fun l4 =>
  E8 l ab (k + 1) l4
def Hj (wide : Int) (Ac : List Int) (AK AF : Int) (AI : List Int) : Option ((List Int) × Int) :=
  b1 (Dy AI) fun y =>
  b1 (FM y) fun l =>
  b3 (Ft wide Ac AK AF AI) fun _l2 _y2 n =>
  if n ≠ 0 then
  (some ([], n))
  else
  (b3 (Ft wide Ac AK AF l) fun l3 y3 _n2 =>
  gd (y3 = true) <|
  b1 (Gc FU [] 0 [] l l3 (fun ab : Int => Dw ab)) fun out =>
  b1 (gd (Cm 0 ∧ Cm (out.length : Int)) <|
  E8 l (Int.toNat ((out.length : Int) - 0)) 0 out) fun aa =>
  some (aa, 0))
def H9 (k : Int) (rec4 : Int → Option Bool) : Option Bool :=
  rec4 (k + 1)
def CM (Bl : Lw) (l : List Int) (x k : Int) (rec4 : Int → Option Bool) : Nat → Int → Option Bool
  | 0, _ => none
  | aa + 1, s_ =>
  ix Bl x fun x2 =>
  if s_ < (x2.length : Int) then
  (ix l k fun x3 =>
  ix Bl x3 fun x4 =>
  ix x2 s_ fun x5 =>
  b1 (Eu x4 x5) fun ok =>
  if ok = true then
  (some false)
  else
  (gd (Cm (s_ + 1)) <|
  CM Bl l x k rec4 aa (s_ + 1)))
  else
  H9 k rec4
def Il (i : Int) (aa : Int → Option Bool) : Option Bool :=
  aa (i + 1)
def BT (Bl : Lw) (l : List Int) (i x : Int) (aa : Int → Option Bool) : Nat → Int → Option Bool
  | 0, _k =>
  Il i aa
  | ab + 1, k =>
  CM Bl l x k (BT Bl l i x aa ab) FU 0
def H5 : Option Bool :=
  some true
def BJ (Bl : Lw) (l : List Int) : List Int → Int → Option Bool
  | [], _i =>
  H5
  | x :: aa, i =>
  gd (Cm 0 ∧ Cm i) <|
  BT Bl l i x (BJ Bl l aa) (Int.toNat (i - 0)) 0
def HW (Bl : Lw) (l : List Int) : Option Bool :=
  BJ Bl l l 0
def CO (AI : List Int) : List Int → Int → (List Int) → Option (List Int)
  | [], _p, aa =>
  some aa
  | _x :: ad, p, aa =>
  b1 (Eu AI p) fun ok =>
  if ok = true then
  (ap aa [p] fun ab =>
  CO AI ad (p + 1) ab)
  else
  (CO AI ad (p + 1) aa)
def Fo (many : Int) (rec3 : Int → Option ((List Int) × Int)) : Option ((List Int) × Int) :=
  gd (Cm (many - 1)) <|
  rec3 (many - 1)
def C9 (l : Lw) (many : Int) (rec3 : Int → Option ((List Int) × Int)) : Lw → Option ((List Int) × Int)
  | [] =>
  Fo many rec3
  | x2 :: aa =>
  b1 (HW l x2) fun ab =>
  if ab = true then
  (some (x2, 0))
  else
  (C9 l many rec3 aa)
def GN : Option ((List Int) × Int) :=
  some ([], 0)
def B5 (l : Lw) (sorted : List Int) : Nat → Int → Option ((List Int) × Int)
  | 0, _ => none
  | aa + 1, many =>
  if 0 < many then
  (b1 (CC FU sorted many) fun l2 =>
  C9 l many (B5 l sorted aa) l2)
  else
  GN
def EK (wide : Int) (Ac : List Int) (AK AF : Int) (AI : List Int) : Option ((List Int) × Int) :=
  b1 (DG wide Ac AK AF AI) fun n =>
  if n ≠ 0 then
  (some ([], n))
  else
  (b1 (D6 wide Ac AK AF) fun l =>
  b1 (CO AI Ac 0 []) fun sorted =>
  B5 l sorted FU (sorted.length : Int))
def Ck (wide : Int) (Ac : List Int) (AK AF : Int) (AI : List Int) : Option Bool :=
  b1 (b1 (Gv wide Ac 11) fun ok =>
  if ok = true then
  (some true)
  else
  (some (decide (12 < (AI.length : Int))))) fun k =>
  if k = true then
  (b1 (BL) fun aa =>
  some aa)
  else
  (b2 (D0 wide Ac) fun n l =>
  b1 (DT AI) fun l2 =>
  b2 (CG wide Ac) fun n2 l3 =>
  b2 (DQ n l AK AF l2) fun l4 n3 =>
  b2 (DP n2 l3 AK AF AI) fun l5 n4 =>
  b1 (if n3 ≠ n4 then
  (some true)
  else
  (b1 (Bk l4 l5) fun ab =>
  some (!ab))) fun k2 =>
  if k2 = true then
  (some false)
  else
  (b2 (Hz n l AK AF l2) fun l6 n5 =>
  b2 (Ez n2 l3 AK AF AI) fun l7 n6 =>
  b1 (if n5 ≠ n6 then
  (some true)
  else
  (b1 (Bk l6 l7) fun ad =>
  some (!ad))) fun k3 =>
  if k3 = true then
  (some false)
  else
  (b2 (Hj n l AK AF l2) fun l8 n7 =>
  b2 (EK n2 l3 AK AF AI) fun l9 n8 =>
  if n7 = n8 then
  (b1 (Bk l8 l9) fun ae =>
  if ae = true then
  (b1 (Dz n l wide Ac) fun af =>
  if af = true then
  (b1 (Bk l2 AI) fun ah =>
  if ah = true then
  (b1 (BL) fun ai =>
  some ai)
  else
  (some false))
  else
  (some false))
  else
  (some false))
  else
  (some false))))
def NF (wide : Int) (Ac : List Int) (AK AF : Int) (AI : List Int) (BC : Int) : Option ((List Int) × Int × Int) :=
  b3 (Ft wide Ac AK AF AI) fun l y n =>
  if n ≠ 0 then
  (some ([], 0, n))
  else
  (b1 (GM BC 0 30) fun ok =>
  if (!ok) = true then
  (some ([], 0, 3))
  else
  (gd (y = true) <|
  b2 (Dr l (fun aa : Int => Dw aa) BC) fun l2 n2 =>
  some (l2, n2, 0)))
def EJ (AI : List Int) (l : Lw) : Lw → (List Int) → Int → Option ((List Int) × Int)
  | [], aa, n4 =>
  some (aa, n4)
  | x :: ab, aa, n4 =>
  b1 (DV l AI x) fun n5 =>
  if n4 < n5 then
  (EJ AI l ab x n5)
  else
  (EJ AI l ab aa n4)
def FY (wide : Int) (Ac AI : List Int) (most : Int) (l : Lw) : Nat → (List Int) → Int → Int → Option ((List Int) × Int)
  | 0, _, _, _ => none
  | ad + 1, aa, n2, many =>
  b1 (if many ≤ most then
  (some (decide (many ≤ (AI.length : Int))))
  else
  (some false)) fun k =>
  if k = true then
  (b2 (b1 (D3 wide Ac) fun l2 =>
  b1 (CC FU l2 many) fun l3 =>
  EJ AI l l3 aa n2) fun ab n3 =>
  gd (Cm (many + 1)) <|
  FY wide Ac AI most l ad ab n3 (many + 1))
  else
  (some (aa, n2))
def IF (wide : Int) (Ac : List Int) (AK AF : Int) (AI : List Int) (most : Int) : Option ((List Int) × Int) :=
  b1 (D6 wide Ac AK AF) fun l =>
  b2 (FY wide Ac AI most l FU [] 0 1) fun NU n =>
  some (NU, n)
def HG : Option Int :=
  some 0
def ET (wide : Int) (Ac : List Int) (AK : Int) (AI : List Int) (most : Int) : Nat → Int → Option Int
  | 0, _ => none
  | aa + 1, AF =>
  if AF ≤ 40 then
  (b2 (IF wide Ac AK AF AI most) fun _l n =>
  if n = (AI.length : Int) then
  (some AF)
  else
  (gd (Cm (AF + 1)) <|
  ET wide Ac AK AI most aa (AF + 1)))
  else
  HG
def IU (wide : Int) (Ac : List Int) (AK : Int) (AI : List Int) (most : Int) : Option Int :=
  ET wide Ac AK AI most FU 1
def En (wide : Int) (Ac : List Int) (AK AF : Int) (AI : List Int) (BC : Int) : Option Bool :=
  b1 (b1 (Gv wide Ac 8) fun ok =>
  if ok = true then
  (some true)
  else
  (some (decide (12 < (AI.length : Int))))) fun k =>
  if k = true then
  (b1 (BL) fun ae =>
  some ae)
  else
  (b2 (D0 wide Ac) fun n l =>
  b1 (DT AI) fun l2 =>
  b2 (CG wide Ac) fun n2 l3 =>
  b3 (NF n l AK AF l2 BC) fun l4 n3 n4 =>
  b2 (J2 n l AK l2 BC) fun n5 n6 =>
  b1 (DG n2 l3 AK AF AI) fun n7 =>
  b1 (DG n2 l3 AK 1 AI) fun n8 =>
  b2 (b1 (if BC < 0 then
  (some true)
  else
  (some (decide (30 < BC)))) fun k2 =>
  if k2 = true then
  (b1 (if n7 = 0 then
  (some 3)
  else
  (some n7)) fun w2 =>
  if n8 = 0 then
  (some (w2, 3))
  else
  (some (w2, n8)))
  else
  (some (n7, n8))) fun w u =>
  b3 (if w = 0 then
  (b2 (IF n2 l3 AK AF AI BC) fun l5 n9 =>
  some (l3, l5, n9))
  else
  (some (l3, [], 0))) fun aa NU k3 =>
  b2 (if u = 0 then
  (b1 (IU n2 aa AK AI BC) fun ab =>
  if ab = 0 then
  (some (6, ab))
  else
  (some (u, ab)))
  else
  (some (u, 0))) fun u2 ad =>
  if n4 = w then
  (if n6 = u2 then
  (if n3 = k3 then
  (if n5 = ad then
  (b1 (Bk l4 NU) fun af =>
  if af = true then
  (b1 (Dz n l wide Ac) fun ah =>
  if ah = true then
  (b1 (Bk l2 AI) fun ai =>
  if ai = true then
  (b1 (BL) fun aj =>
  some aj)
  else
  (some false))
  else
  (some false))
  else
  (some false))
  else
  (some false))
  else
  (some false))
  else
  (some false))
  else
  (some false))
def Ec : List Int → Int → (List Int) → Option (List Int)
  | [], _k, aa =>
  some aa
  | x :: ad, k, aa =>
  if x = 1 then
  (ap aa [k] fun ab =>
  Ec ad (k + 1) ab)
  else
  (Ec ad (k + 1) aa)
def HA (_wide : Int) (Ac : List Int) : Option (List Int) :=
  b1 (Ec Ac 0 []) fun out =>
  some out
def EE (Ac : List Int) (k : Int) : Nat → Int → Int → Option Int
  | 0, _, _ => none
  | ab + 1, aa, i =>
  b1 (if i < k then
  (ix Ac aa fun x =>
  some (decide (x ≠ 0)))
  else
  (some false)) fun k2 =>
  if k2 = true then
  (gd (Cm (aa + 1)) <|
  gd (k ≠ 0) <|
  gd (Cm (i + 1)) <|
  EE Ac k ab (Int.tmod (aa + 1) k) (i + 1))
  else
  (some aa)
def Fq (wide : Int) (Ac : List Int) (AK AF n : Int) : Option Bool :=
  bv (if (Ac.length : Int) > 1 then (Ac.length : Int) else 1) fun k =>
  gd (k ≠ 0) <|
  gd ((3 : Int) ≠ 0 ∧ Cm (Int.tdiv n 3)) <|
  gd (k ≠ 0) <|
  b1 (EE Ac k FU (Int.tmod n k) 0) fun stand =>
  b2 (Hm wide Ac AK stand) fun l _n2 =>
  b1 (b1 (if 0 < (l.length : Int) then
  (some (decide ((Int.tmod n 2) = 0)))
  else
  (some false)) fun k3 =>
  if k3 = true then
  (gd ((l.length : Int) ≠ 0) <|
  ix l (Int.tmod n (l.length : Int)) fun x2 =>
  gd (Cm ((Int.tmod n 3) - 1)) <|
  gd (Cm (x2 + ((Int.tmod n 3) - 1))) <|
  bv (l.set (Int.tmod n (l.length : Int) : Int).toNat (x2 + ((Int.tmod n 3) - 1))) fun l3 =>
  some l3)
  else
  (some l)) fun l2 =>
  b2 (KC wide Ac AK stand (Int.tmod (Int.tdiv n 3) k)) fun l4 _n3 =>
  b1 (b1 (if 1 < (l4.length : Int) then
  (some (decide ((Int.tmod n 3) = 0)))
  else
  (some false)) fun k4 =>
  if k4 = true then
  (gd (Cm ((l4.length : Int) - 1)) <|
  gd (k ≠ 0) <|
  ix l4 ((l4.length : Int) - 1) fun _x3 =>
  bv (l4.set ((l4.length : Int) - 1 : Int).toNat (Int.tmod n k)) fun ad =>
  some ad)
  else
  (some l4)) fun HR =>
  b1 (HA wide Ac) fun l5 =>
  b1 (b1 (if 1 < (l5.length : Int) then
  (some (decide ((Int.tmod n 4) = 0)))
  else
  (some false)) fun k5 =>
  if k5 = true then
  (gd ((0 ≤ (1 : Int) ∧ (1 : Int) ≤ (l5.length : Int)) ∧ (l5.length : Int) ≤ l5.length) <|
  bv (sl l5 1 (l5.length : Int)) fun aa =>
  some aa)
  else
  (some l5)) fun ab =>
  b1 (CV wide Ac AK AF (Int.tmod (Int.tdiv n 3) k)) fun ok =>
  if ok = true then
  (b1 (EU wide Ac AK stand (Int.tmod (Int.tdiv n 3) k) l2) fun ae =>
  if ae = true then
  (b1 (Fy wide Ac AK stand (Int.tmod (Int.tdiv n 3) k) HR) fun af =>
  if af = true then
  (b1 (Dj wide Ac AK AF stand (Int.tmod (Int.tdiv n 3) k)) fun ah =>
  if ah = true then
  (b1 (Ck wide Ac AK AF ab) fun ai =>
  if ai = true then
  (b1 (En wide Ac AK AF ab (Int.tmod n 4)) fun aj =>
  some aj)
  else
  (some false))
  else
  (some false))
  else
  (some false))
  else
  (some false))
  else
  (some false)
def GG (k : Int) (aa : Int → Option Bool) : Option Bool :=
  aa (k + 1)
def D8 (k x : Int) (ao : Int → Option Bool) : Nat → Int → Option Bool
  | 0, _k2 =>
  GG k ao
  | au + 1, k2 =>
  b2 (Ee [[104, 115, 104], [115, 119, 115]]) fun n l =>
  ix ([2, 0, 2, 4, 0, 4] : List Int) 0 fun _x2 =>
  ix ([2, 0, 2, 4, 0, 4] : List Int) 4 fun _x3 =>
  ix ([1, 0, 3] : List Int) 0 fun _x4 =>
  ix ([1, 0, 3] : List Int) 2 fun _x5 =>
  ix ([0, 2] : List Int) 1 fun _x6 =>
  ix ([2, 0, 2, 4, 0, 4] : List Int) 1 fun _x7 =>
  ix ([0, 2] : List Int) 0 fun _x8 =>
  LZ (if k2 = 0 then
  (ix l 3 fun _x9 =>
  bv (l.set (3 : Int).toNat x) fun t =>
  some (x, t, x, 4, 1, 2, [2, 0, 2, 4, 0, 4], [1, 0, 3], [0, 2], 1))
  else
  (if k2 = 1 then
  (some (n, l, 2, x, 1, 2, [2, 0, 2, 4, 0, 4], [1, 0, 3], [0, 2], 1))
  else
  (if k2 = 2 then
  (some (n, l, 2, 4, x, 2, [2, 0, 2, 4, 0, 4], [1, 0, 3], [0, 2], 1))
  else
  (if k2 = 3 then
  (some (n, l, 2, 4, 1, x, [2, 0, 2, 4, 0, 4], [1, 0, 3], [0, 2], 1))
  else
  (if k2 = 4 then
  (bv ([2, 0, 2, 4, 0, 4].set (0 : Int).toNat x) fun af =>
  some (n, l, 2, 4, 1, 2, af, [1, 0, 3], [0, 2], 1))
  else
  (if k2 = 5 then
  (bv ([2, 0, 2, 4, 0, 4].set (4 : Int).toNat x) fun ah =>
  some (n, l, 2, 4, 1, 2, ah, [1, 0, 3], [0, 2], 1))
  else
  (if k2 = 6 then
  (bv ([1, 0, 3].set (0 : Int).toNat x) fun aq =>
  some (n, l, 2, 4, 1, 2, [2, 0, 2, 4, 0, 4], aq, [0, 2], 1))
  else
  (if k2 = 7 then
  (bv ([1, 0, 3].set (2 : Int).toNat x) fun ar =>
  some (n, l, 2, 4, 1, 2, [2, 0, 2, 4, 0, 4], ar, [0, 2], 1))
  else
  (if k2 = 8 then
  (bv ([0, 2].set (1 : Int).toNat x) fun ai =>
  some (n, l, 2, 4, 1, 2, [2, 0, 2, 4, 0, 4], [1, 0, 3], ai, 1))
  else
  (if k2 = 9 then
  (some (n, l, 2, 4, 1, 2, [2, 0, 2, 4, 0, 4], [1, 0, 3], [0, 2], x))
  else
  (if k2 = 10 then
  (bv ([2, 0, 2, 4, 0, 4].set (1 : Int).toNat x) fun aj =>
  some (n, l, 2, 4, 1, 2, aj, [1, 0, 3], [0, 2], 1))
  else
  (gd (k2 = 11) <|
  bv ([0, 2].set (0 : Int).toNat x) fun ak =>
  some (n, l, 2, 4, 1, 2, [2, 0, 2, 4, 0, 4], [1, 0, 3], ak, 1))))))))))))) fun ab aa ad ae stand Cw table HR some_ BC =>
  b1 (b1 (CV ab aa ad ae Cw) fun ok =>
  if (!ok) = true then
  (some true)
  else
  (b1 (EU ab aa ad stand Cw table) fun av =>
  if (!av) = true then
  (some true)
  else
  (b1 (Fy ab aa ad stand Cw HR) fun aw =>
  if (!aw) = true then
  (some true)
  else
  (b1 (Dj ab aa ad ae stand Cw) fun ax =>
  if (!ax) = true then
  (some true)
  else
  (b1 (Ck ab aa ad ae some_) fun ay =>
  if (!ay) = true then
  (some true)
  else
  (b1 (En ab aa ad ae some_ BC) fun az =>
  some (!az))))))) fun k3 =>
  if k3 = true then
  (some false)
  else
  (D8 k x ao au (k2 + 1))
def D1 (k4 : Int) : Nat → Int → (List Int) → Option (List Int)
  | 0, _k5, aa =>
  some aa
  | ab + 1, k5, aa =>
  ix ([k4, Int.tdiv k4 3, Int.tdiv k4 9, Int.tdiv k4 27] : List Int) k5 fun ad =>
  ap aa [Int.tmod ad 3] fun t2 =>
  D1 k4 ab (k5 + 1) t2
def GV (k4 : Int) (aa : Int → Option Bool) : Option Bool :=
  aa (k4 + 1)
def CE (k6 : Int) : Nat → Int → (List Int) → Option (List Int)
  | 0, _k7, aa =>
  some aa
  | ab + 1, k7, aa =>
  gd (0 ≤ (Int.tmod k7 5) ∧ (Int.tmod k7 5) < 64) <|
  ap aa [PC (shr k6 (Int.tmod k7 5)) 1] fun l2 =>
  gd (Cm (k7 * k7)) <|
  gd (Cm (k6 + (k7 * k7))) <|
  if (Int.tmod (k6 + (k7 * k7)) 7) = 0 then
  (ix l2 k7 fun _ad =>
  bv (l2.set (k7 : Int).toNat 2) fun t3 =>
  CE k6 ab (k7 + 1) t3)
  else
  (CE k6 ab (k7 + 1) l2)
def GB (k6 : Int) (aa : Int → Option Bool) : Option Bool :=
  aa (k6 + 1)
def C8 : Nat → Int → (List Int) → (List Int) → Option ((List Int) × (List Int))
  | 0, _k9, ab, aa =>
  some (ab, aa)
  | ad + 1, k9, ab, aa =>
  gd (Cm (2 * (Int.tmod k9 2))) <|
  ap ab [2 * (Int.tmod k9 2)] fun t4 =>
  if k9 < 24 then
  (gd (Cm (23 - k9)) <|
  ix aa (23 - k9) fun _ae =>
  bv (aa.set (23 - k9 : Int).toNat 1) fun full =>
  C8 ad (k9 + 1) t4 full)
  else
  (C8 ad (k9 + 1) t4 aa)
def Gr (k8 : Int) (aa : Int → Option Bool) : Option Bool :=
  aa (k8 + 1)
def EB : Option Bool :=
  b1 (CV 0 [] 0 0 0) fun aa =>
  if aa = true then
  (b2 (Ee [[115]]) fun n5 l4 =>
  b1 (Ck n5 l4 0 1 []) fun ab =>
  if ab = true then
  (b2 (Ee [[115]]) fun n6 l5 =>
  b1 (En n6 l5 0 1 [] 0) fun ad =>
  if ad = true then
  (b1 (BL) fun ae =>
  some ae)
  else
  (some false))
  else
  (some false))
  else
  (some false)
def A2 : Nat → Int → Option Bool
  | 0, _k8 =>
  EB
  | ad + 1, k8 =>
  gd (0 ≤ (24 : Int) ∧ (24 : Int) ≤ 1048576) <|
  bv (List.replicate (Int.toNat 24) 0 : List Int) fun l3 =>
  b2 (gd (Cm 0 ∧ Cm k8) <|
  C8 (Int.toNat (k8 - 0)) 0 [] l3) fun ab aa =>
  b1 (gd (Cm (k8 - 1)) <|
  b1 (CV 1 ab 1 40 (k8 - 1)) fun ai =>
  if (!ai) = true then
  (some true)
  else
  (gd (Cm (k8 - 1)) <|
  b1 (Dj 1 ab 0 1 (k8 - 1) 0) fun ae =>
  if (!ae) = true then
  (some true)
  else
  (b1 (CV 6 aa 0 0 0) fun af =>
  if (!af) = true then
  (some true)
  else
  (b1 (Dj 6 aa 3 9 0 23) fun ah =>
  some (!ah))))) fun aj =>
  if aj = true then
  (some false)
  else
  (b1 (b1 (Ep 1 ab) fun n2 =>
  if 0 < k8 then
  (if (decide (n2 = 0)) ≠ (decide (k8 < 31)) then
  (some true)
  else
  (b1 (Ep 6 aa) fun n3 =>
  some (decide ((decide (n3 = 0)) ≠ (decide (k8 < 11))))))
  else
  (if (decide (n2 = 0)) ≠ false then
  (some true)
  else
  (b1 (Ep 6 aa) fun n4 =>
  some (decide ((decide (n4 = 0)) ≠ (decide (k8 < 11))))))) fun ak =>
  if ak = true then
  (some false)
  else
  Gr k8 (A2 ad))
def EY : Option Bool :=
  gd (Cm 0 ∧ Cm 33) <|
  A2 (Int.toNat (33 - 0)) 0
def Ab : Nat → Int → Option Bool
  | 0, _k6 =>
  EY
  | ab + 1, k6 =>
  b1 (gd (Cm 0 ∧ Cm 9) <|
  CE k6 (Int.toNat (9 - 0)) 0 []) fun aa =>
  gd (Cm (2 + (Int.tmod k6 8))) <|
  gd (Cm (5 * k6)) <|
  b1 (Fq 3 aa (Int.tmod k6 5) (2 + (Int.tmod k6 8)) (5 * k6)) fun ad =>
  if (!ad) = true then
  (some false)
  else
  GB k6 (Ab ab)
def E4 : Option Bool :=
  gd (Cm 0 ∧ Cm 30) <|
  Ab (Int.toNat (30 - 0)) 0
def AD : Nat → Int → Option Bool
  | 0, _k4 =>
  E4
  | ab + 1, k4 =>
  ix ([4, 2, 1] : List Int) (Int.tmod k4 3) fun ad =>
  b1 (gd ((3 : Int) ≠ 0 ∧ Cm (Int.tdiv k4 3)) <|
  gd ((9 : Int) ≠ 0 ∧ Cm (Int.tdiv k4 9)) <|
  gd ((27 : Int) ≠ 0 ∧ Cm (Int.tdiv k4 27)) <|
  gd (Cm 0 ∧ Cm 4) <|
  D1 k4 (Int.toNat (4 - 0)) 0 []) fun aa =>
  gd (Cm (1 + (Int.tmod k4 9))) <|
  b1 (Fq ad aa (Int.tmod k4 5) (1 + (Int.tmod k4 9)) k4) fun ae =>
  if (!ae) = true then
  (some false)
  else
  GV k4 (AD ab)
def E3 : Option Bool :=
  gd (Cm 0 ∧ Cm 81) <|
  AD (Int.toNat (81 - 0)) 0
def An : Nat → Int → Option Bool
  | 0, _k =>
  E3
  | aa + 1, k =>
  ix ([-2, -1, 0, 1, 2, 3, 4, 5, 6, 7, 29, 30, 31, 39, 40, 41, 9223372036854775807, -9223372036854775808] : List Int) k fun x =>
  gd (Cm 0 ∧ Cm 12) <|
  D8 k x (An aa) (Int.toNat (12 - 0)) 0
def Gj : Option Bool :=
  gd (Cm 0 ∧ Cm 18) <|
  An (Int.toNat (18 - 0)) 0
end Go.Proofs.YtkfbbjiniapooaaGreat
