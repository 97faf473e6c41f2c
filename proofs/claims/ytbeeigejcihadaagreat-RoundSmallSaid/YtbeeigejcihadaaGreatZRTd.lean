/- Plain functions that mirror the code, printed by a program of mine. -/
import Derived.Test.YtbeeigejcihadaaGreatZRPl
namespace Go.Proofs.YtbeeigejcihadaaGreat
open Go.PL
abbrev Bw := List (List Int)
abbrev Ci := List ((List Int) × Int × Int)
abbrev Qw := (List (List Int)) × (List (List Int)) × Int × Int × (List ((List Int) × Int × Int)) × (List Int) × (List (Int × Int)) × (List Int)
def PB : List Int := [0, 1, 2, 2, 3, 3, 3, 3, 4, 4, 4, 4, 4, 4, 4, 4, 5, 5, 5, 5, 5, 5, 5, 5, 5, 5, 5, 5, 5, 5, 5, 5, 6, 6, 6, 6, 6, 6, 6, 6, 6, 6, 6, 6, 6, 6, 6, 6, 6, 6, 6, 6, 6, 6, 6, 6, 6, 6, 6, 6, 6, 6, 6, 6, 7, 7, 7, 7, 7, 7, 7, 7, 7, 7, 7, 7, 7, 7, 7, 7, 7, 7, 7, 7, 7, 7, 7, 7, 7, 7, 7, 7, 7, 7, 7, 7, 7, 7, 7, 7, 7, 7, 7, 7, 7, 7, 7, 7, 7, 7, 7, 7, 7, 7, 7, 7, 7, 7, 7, 7, 7, 7, 7, 7, 7, 7, 7, 7, 8, 8, 8, 8, 8, 8, 8, 8, 8, 8, 8, 8, 8, 8, 8, 8, 8, 8, 8, 8, 8, 8, 8, 8, 8, 8, 8, 8, 8, 8, 8, 8, 8, 8, 8, 8, 8, 8, 8, 8, 8, 8, 8, 8, 8, 8, 8, 8, 8, 8, 8, 8, 8, 8, 8, 8, 8, 8, 8, 8, 8, 8, 8, 8, 8, 8, 8, 8, 8, 8, 8, 8, 8, 8, 8, 8, 8, 8, 8, 8, 8, 8, 8, 8, 8, 8, 8, 8, 8, 8, 8, 8, 8, 8, 8, 8, 8, 8, 8, 8, 8, 8, 8, 8, 8, 8, 8, 8, 8, 8, 8, 8, 8, 8, 8, 8, 8, 8, 8, 8, 8, 8, 8, 8, 8, 8, 8, 8]
def DV : Option (Bw × Bw × Int × Int × Ci) :=
  some ([[0, 2, -1], [2, 0, 2], [-1, 2, 0]], [[0], [1], [1, 2]], 3, 0, [([0, 2], 3, 12), ([1], 1, 20)])
def Da : Option (Bw × Bw × Int × Int × Ci) :=
  some ([[0, 2, -1], [2, 0, 2], [-1, 2, 0]], [[0], [1], [1, 2]], 3, 0, [([0, 2], 3, 12), ([1], 1, 20)])
def EU (n lo hi : Int) : Option Bool :=
  if lo ≤ n then
  (some (decide (n ≤ hi)))
  else
  (some false)
def CD (f : (List Int) → Option Bool) : Bw → Option Unit
  | [] =>
  some ()
  | x :: aa =>
  b1 (f x) fun ok =>
  gd (ok = false) <|
  CD f aa
def FK (s_ : Bw) (f : (List Int) → Option Bool) : Option Int :=
  b0 (CD f s_) <|
  some (-1)
def EN (s_ : Bw) (f : (List Int) → Option Bool) : Option Bool :=
  b1 (FK s_ f) fun n =>
  some (decide (0 ≤ n))
def G2 (x : List Int) (so : (List Int) → Option Bool) : Option Bool :=
  b1 (so x) fun ok =>
  some (!ok)
def Ja (l : Bw) (so : (List Int) → Option Bool) : Option Bool :=
  b1 (EN l (fun aa : (List Int) => G2 aa so)) fun ok =>
  some (!ok)
def FG (l : List Int) (n : Int) : Option Bool :=
  some (decide ((l.length : Int) = n))
def H3 (walks Af : Bw) (Ae _start : Int) (Ab : Ci) : Option Bool :=
  b1 (EU (Af.length : Int) 1 5) fun ok =>
  if ok = true then
  (b1 (EU Ae 1 5) fun aa =>
  if aa = true then
  (if (Ab.length : Int) ≤ 3 then
  (gd ((walks.length : Int) = (Af.length : Int)) <|
  b1 (Ja walks (fun ab : (List Int) => FG ab (Af.length : Int))) fun ad =>
  some ad)
  else
  (some false))
  else
  (some false))
  else
  (some false)
def ET (_walks Af : Bw) (_Ae _start : Int) (_Ab : Ci) (s_ : Int) : Option Bool :=
  gd (Ca ((Af.length : Int) - 1)) <|
  b1 (EU s_ 0 ((Af.length : Int) - 1)) fun ok =>
  some ok
def Gm (k : Int) (aa : Int → Option Bool) : Option Bool :=
  aa (k + 1)
def DH (k : Int) (aa : Int → Option Bool) : List Int → Int → Option Bool
  | [], _k2 =>
  Gm k aa
  | x2 :: ab, k2 =>
  b1 (if k = k2 then
  (if x2 ≠ 0 then
  (some true)
  else
  (if k ≠ k2 then
  (if x2 ≠ (-1) then
  (b1 (EU x2 1 20) fun ok =>
  some (!ok))
  else
  (some false))
  else
  (some false)))
  else
  (if k ≠ k2 then
  (if x2 ≠ (-1) then
  (b1 (EU x2 1 20) fun ad =>
  some (!ad))
  else
  (some false))
  else
  (some false))) fun k3 =>
  if k3 = true then
  (some false)
  else
  (DH k aa ab (k2 + 1))
def Gk : Option Bool :=
  some true
def Cn : Bw → Int → Option Bool
  | [], _k =>
  Gk
  | x :: aa, k =>
  DH k (Cn aa) x 0
def HA (walks _Af : Bw) (_Ae _start : Int) (_Ab : Ci) : Option Bool :=
  Cn walks 0
def Gb : Option Int :=
  some (-1)
def DB (v : Int) : List Int → Int → Option Int
  | [], _k =>
  Gb
  | x :: aa, k =>
  if v = x then
  (some k)
  else
  (DB v aa (k + 1))
def He (s_ : List Int) (v : Int) : Option Int :=
  DB v s_ 0
def CG (s_ : List Int) (v : Int) : Option Bool :=
  b1 (He s_ v) fun n =>
  some (decide (0 ≤ n))
def Hm : Option Int :=
  some 0
def Et (Ae : Int) (l : List Int) : List Int → Int → Option Int
  | [], _k =>
  Hm
  | x :: aa, k =>
  gd (Ca (Ae - 1)) <|
  b1 (EU x 0 (Ae - 1)) fun ok =>
  if (!ok) = true then
  (some 1)
  else
  (gd ((0 ≤ (0 : Int) ∧ (0 : Int) ≤ k) ∧ k ≤ l.length) <|
  bv (sl l 0 k) fun l2 =>
  b1 (CG l2 x) fun ab =>
  if ab = true then
  (some 5)
  else
  (Et Ae l aa (k + 1)))
def GZ (_walks _Af : Bw) (Ae _start : Int) (_Ab : Ci) (l : List Int) : Option Int :=
  Et Ae l l 0
def IN (walks Af : Bw) (Ae start : Int) (Ab : Ci) (quarter : List Int) (words hour : Int) : Option Int :=
  gd (¬ ((quarter.length : Int) = 0)) <|
  b1 (GZ walks Af Ae start Ab quarter) fun n =>
  if n ≠ 0 then
  (some n)
  else
  (b1 (b1 (EU words 1 5) fun ok =>
  if (!ok) = true then
  (some true)
  else
  (b1 (EU hour 0 200) fun aa =>
  some (!aa))) fun k =>
  if k = true then
  (some 3)
  else
  (some 0))
def JJ (AE : Int) : Option Int :=
  gd (¬ (9 < AE)) <|
  some 0
def Hl (walks Af : Bw) (Ae start : Int) (Ab : Ci) : Ci → Int → Option Int
  | [], aa =>
  JJ aa
  | x2 :: ab, aa =>
  b1 (IN walks Af Ae start Ab x2.1 x2.2.1 x2.2.2) fun n2 =>
  if n2 ≠ 0 then
  (some n2)
  else
  (gd (Ca (aa + (x2.1.length : Int))) <|
  Hl walks Af Ae start Ab ab (aa + (x2.1.length : Int)))
def JW (walks Af : Bw) (Ae start : Int) (Ab : Ci) : Option Int :=
  Hl walks Af Ae start Ab Ab 0
def Hf (walks Af : Bw) (Ae start : Int) (Ab : Ci) : Bw → Option Int
  | [] =>
  JW walks Af Ae start Ab
  | x :: aa =>
  b1 (GZ walks Af Ae start Ab x) fun n =>
  if n ≠ 0 then
  (some n)
  else
  (Hf walks Af Ae start Ab aa)
def Gj (walks Af : Bw) (Ae start : Int) (Ab : Ci) : Option Int :=
  b1 (H3 walks Af Ae start Ab) fun ok =>
  if (!ok) = true then
  (some 2)
  else
  (b1 (ET walks Af Ae start Ab start) fun aa =>
  if (!aa) = true then
  (some 1)
  else
  (b1 (HA walks Af Ae start Ab) fun ab =>
  if (!ab) = true then
  (some 3)
  else
  (Hf walks Af Ae start Ab Af)))
def ER : List Int → Int → Option Int
  | [], aa =>
  some aa
  | x :: ab, aa =>
  b1 (if x ≠ (-1) then
  (if aa = (-1) then
  (some true)
  else
  (some (decide (x < aa))))
  else
  (some false)) fun k2 =>
  if k2 = true then
  (ER ab x)
  else
  (ER ab aa)
def HK (l : List Int) : Option Int :=
  b1 (ER l (-1)) fun out =>
  some out
def CW (w : List Int) (k k2 : Int) : Nat → Int → (List Int) → Option (List Int)
  | 0, _k3, aa =>
  some aa
  | ab + 1, k3, aa =>
  b1 (gd (0 ≤ k ∧ k < 5) <|
  gd (0 ≤ k3 ∧ k3 < 5) <|
  ix w (k * 5 + k3) fun x =>
  if x ≠ (-1) then
  (gd (0 ≤ k3 ∧ k3 < 5) <|
  gd (0 ≤ k2 ∧ k2 < 5) <|
  ix w (k3 * 5 + k2) fun x2 =>
  some (decide (x2 ≠ (-1))))
  else
  (some false)) fun k4 =>
  if k4 = true then
  (gd (0 ≤ k ∧ k < 5) <|
  gd (0 ≤ k2 ∧ k2 < 5) <|
  ix aa (k * 5 + k2) fun x3 =>
  gd (0 ≤ k ∧ k < 5) <|
  gd (0 ≤ k3 ∧ k3 < 5) <|
  ix w (k * 5 + k3) fun x4 =>
  gd (0 ≤ k3 ∧ k3 < 5) <|
  gd (0 ≤ k2 ∧ k2 < 5) <|
  ix w (k3 * 5 + k2) fun x5 =>
  gd (Ca (x4 + x5)) <|
  gd (0 ≤ k ∧ k < 5) <|
  b1 (HK [x3, x4 + x5]) fun n =>
  gd (0 ≤ k2 ∧ k2 < 5) <|
  bv (aa.set (k * 5 + k2 : Int).toNat n) fun l =>
  CW w k k2 ab (k3 + 1) l)
  else
  (CW w k k2 ab (k3 + 1) aa)
def DT (w : List Int) (k : Int) : Nat → Int → (List Int) → Option (List Int)
  | 0, _k2, aa =>
  some aa
  | ad + 1, k2, aa =>
  b1 (gd (Ca 0 ∧ Ca 5) <|
  CW w k k2 (Int.toNat (5 - 0)) 0 aa) fun ab =>
  DT w k ad (k2 + 1) ab
def DF (w : List Int) : Nat → Int → (List Int) → Option (List Int)
  | 0, _k, aa =>
  some aa
  | ad + 1, k, aa =>
  b1 (gd (Ca 0 ∧ Ca 5) <|
  DT w k (Int.toNat (5 - 0)) 0 aa) fun ab =>
  DF w ad (k + 1) ab
def FR (w : List Int) : Option (List Int) :=
  b1 (gd (Ca 0 ∧ Ca 5) <|
  DF w (Int.toNat (5 - 0)) 0 w) fun out =>
  some out
def CE : List Int → (List Int) → Option (List Int)
  | [], aa =>
  some aa
  | x :: ab, aa =>
  ap aa [x] fun ad =>
  CE ab ad
def FJ (s_ seq : List Int) : Option (List Int) :=
  b1 (CE seq s_) fun aa =>
  some aa
def HU (seq : List Int) : Option (List Int) :=
  b1 (FJ [] seq) fun l =>
  some l
def Ko (x : Int) : Option Bool :=
  some (decide (x ≠ x))
def KP (x y : Int) : Option Bool :=
  b1 (Ko x) fun ok =>
  gd (ok = false) <|
  some (decide (x < y))
def B4 (a : Int) : Nat → (List Int) → Int → Option (List Int)
  | 0, _, _ => none
  | ab + 1, aa, j =>
  b1 (if a < j then
  (ix aa j fun x =>
  gd (Ca (j - 1)) <|
  ix aa (j - 1) fun x2 =>
  b1 (KP x x2) fun ok =>
  some ok)
  else
  (some false)) fun k =>
  if k = true then
  (gd (Ca (j - 1)) <|
  gd (Ca (j - 1)) <|
  ix aa (j - 1) fun x3 =>
  ix aa j fun x4 =>
  bv (aa.set (j : Int).toNat x3) fun l =>
  ix l (j - 1) fun _x5 =>
  bv (l.set (j - 1 : Int).toNat x4) fun l2 =>
  gd (Ca (j - 1)) <|
  B4 a ab l2 (j - 1))
  else
  (some aa)
def B3 (a : Int) : Nat → Int → (List Int) → Option (List Int)
  | 0, _i, data =>
  some data
  | ab + 1, i, data =>
  b1 (B4 a FU data i) fun aa =>
  B3 a ab (i + 1) aa
def D1 (s_ : List Int) (a b : Int) : Option (List Int) :=
  gd (Ca (a + 1)) <|
  gd (Ca (a + 1) ∧ Ca b) <|
  B3 a (Int.toNat (b - (a + 1))) (a + 1) s_
def Je (x : Int) : Option Int :=
  gd (¬ (4294967296 ≤ x)) <|
  gd (¬ (65536 ≤ x)) <|
  gd (¬ (256 ≤ x)) <|
  ix PB (x % 256) fun x2 =>
  gd (Ca x2) <|
  gd (Ca (0 + x2)) <|
  some (0 + x2)
def Kh (x : Int) : Option Int :=
  b1 (Je x) fun n =>
  some n
def C2 (s_ : List Int) (a b : Int) : Nat → Option (List Int)
  | 0 => none
  | _ab + 1 =>
  gd (Ca (b - a)) <|
  gd ((b - a) ≤ 12) <|
  b1 (D1 s_ a b) fun aa =>
  some aa
def EV (_ab : (List Int) → Int → Int → Int → Option ((List Int))) (s_ : List Int) (a b _aa : Int) : Option (List Int) :=
  C2 s_ a b FU
def CZ : Nat → (List Int) → Int → Int → Int → Option (List Int)
  | 0, _, _, _, _ => none
  | fu + 1, s_, a, b, aa =>
  EV (CZ fu) s_ a b aa
def HI (s_ : List Int) : Option (List Int) :=
  b1 (Kh ((s_.length : Int) % 18446744073709551616)) fun n =>
  b1 (CZ FU s_ 0 (s_.length : Int) n) fun aa =>
  some aa
def Ir (seq : List Int) : Option (List Int) :=
  b1 (HU seq) fun l =>
  b1 (HI l) fun s_ =>
  some s_
def CN : List Int → Option (List Int)
  | [] =>
  some []
  | x :: aa =>
  yl x <|
  CN aa
def FZ (s_ : List Int) : Option (List Int) :=
  CN s_
def GS (s_ : List Int) : Option (List Int) :=
  b1 (FZ s_) fun l =>
  some l
def Ft (walks : Bw) (k : Int) : Nat → Int → (List Int) → Option (List Int)
  | 0, _k2, aa =>
  some aa
  | ab + 1, k2, aa =>
  gd (0 ≤ k ∧ k < 5) <|
  gd (0 ≤ k2 ∧ k2 < 5) <|
  ix aa (k * 5 + k2) fun _x =>
  bv (aa.set (k * 5 + k2 : Int).toNat (-1)) fun ws =>
  b1 (if k < (walks.length : Int) then
  (some (decide (k2 < (walks.length : Int))))
  else
  (some false)) fun k3 =>
  if k3 = true then
  (ix walks k fun x2 =>
  ix x2 k2 fun x3 =>
  gd (0 ≤ k ∧ k < 5) <|
  gd (0 ≤ k2 ∧ k2 < 5) <|
  ix ws (k * 5 + k2) fun _x4 =>
  bv (ws.set (k * 5 + k2 : Int).toNat x3) fun ad =>
  Ft walks k ab (k2 + 1) ad)
  else
  (Ft walks k ab (k2 + 1) ws)
def GF (walks : Bw) : Nat → Int → (List Int) → Option (List Int)
  | 0, _k, aa =>
  some aa
  | ad + 1, k, aa =>
  b1 (gd (Ca 0 ∧ Ca 5) <|
  Ft walks k (Int.toNat (5 - 0)) 0 aa) fun ab =>
  GF walks ad (k + 1) ab
def GC : Nat → (List Int) → (List Int) → Option (List Int)
  | 0, _, _ => none
  | ad + 1, aa, ab =>
  gd (∀ x_ ∈ ab, Ca x_) <|
  gd (∀ x_ ∈ aa, Ca x_) <|
  if ab ≠ aa then
  (b1 (FR ab) fun a2 =>
  GC ad ab a2)
  else
  (some aa)
def Fs (k4 : Int) (aa : List (Int × Int)) (x6 : Int) : Bw → Int → (List Int) → Option (List Int)
  | [], _k6, ab =>
  some ab
  | x7 :: ad, k6, ab =>
  b1 (CG x7 x6) fun ok =>
  if ok = true then
  (gd (0 ≤ k6 ∧ k6 < 5) <|
  gd (0 ≤ k4 ∧ k4 < 3) <|
  ix ab (k6 * 3 + k4) fun x8 =>
  gd ((0 ≤ ((aa.length : Int) : Int) ∧ ((aa.length : Int) : Int) < 64) ∧ Ca (shl 1 (aa.length : Int))) <|
  gd (0 ≤ k6 ∧ k6 < 5) <|
  gd (0 ≤ k4 ∧ k4 < 3) <|
  bv (ab.set (k6 * 3 + k4 : Int).toNat (PS x8 (shl 1 (aa.length : Int)))) fun ae =>
  Fs k4 aa x6 ad (k6 + 1) ae)
  else
  (Fs k4 aa x6 ad (k6 + 1) ab)
def Gz (Af : Bw) (k4 : Int) : List Int → (List (Int × Int)) → (List Int) → Option ((List (Int × Int)) × (List Int))
  | [], aa, ab =>
  some (aa, ab)
  | x6 :: ai, aa, ab =>
  b2 (b1 (Fs k4 aa x6 Af 0 ab) fun ae =>
  ap aa [(k4, x6)] fun c =>
  some (c, ae)) fun ad ah =>
  Gz Af k4 ai ad ah
def GH (Af : Bw) : Ci → Int → (List (Int × Int)) → (List Int) → Option ((List (Int × Int)) × (List Int))
  | [], _k4, aa, ab =>
  some (aa, ab)
  | x5 :: ah, k4, aa, ab =>
  b2 (b1 (GS x5.1) fun y =>
  b1 (Ir y) fun l =>
  Gz Af k4 l aa ab) fun ad ae =>
  GH Af ah (k4 + 1) ad ae
def Cp (walks Af : Bw) (Ae start : Int) (Ab : Ci) : Option ((Option Qw) × Int) :=
  b1 (Gj walks Af Ae start Ab) fun n =>
  if n ≠ 0 then
  (some (none, n))
  else
  (b1 (gd (Ca 0 ∧ Ca 5) <|
  GF walks (Int.toNat (5 - 0)) 0 (List.replicate 25 0)) fun aa =>
  b1 (b1 (FR aa) fun a =>
  GC FU aa a) fun ab =>
  b2 (GH Af Ab 0 [] (List.replicate 15 0)) fun ad ae =>
  some (some (walks, Af, Ae, start, Ab, ab, ad, ae), 0))
def JU (walks Af : Bw) (Ae start : Int) (Ab : Ci) (from_ to : Int) : Option (Int × Int) :=
  b2 (Cp walks Af Ae start Ab) fun d n =>
  if n ≠ 0 then
  (some (0, n))
  else
  (b1 (b1 (ET walks Af Ae start Ab from_) fun ok =>
  if (!ok) = true then
  (some true)
  else
  (b1 (ET walks Af Ae start Ab to) fun ai =>
  some (!ai))) fun k =>
  if k = true then
  (some (0, 1))
  else
  (b8 d fun _Ax _ae _ad _ah _ab aa _AE _BH =>
  gd (0 ≤ from_ ∧ from_ < 5) <|
  gd (0 ≤ to ∧ to < 5) <|
  ix aa (from_ * 5 + to) fun x =>
  if x = (-1) then
  (some (0, 6))
  else
  (gd (0 ≤ from_ ∧ from_ < 5) <|
  gd (0 ≤ to ∧ to < 5) <|
  some (x, 0))))
def Dt (s2 : List Int) : List Int → Int → Option Unit
  | [], _k =>
  some ()
  | x :: aa, k =>
  ix s2 k fun x2 =>
  gd (¬ (x ≠ x2)) <|
  Dt s2 aa (k + 1)
def Ek (s1 s2 : List Int) : Option Bool :=
  gd (¬ ((s1.length : Int) ≠ (s2.length : Int))) <|
  b0 (Dt s2 s1 0) <|
  some true
def D7 (a b : List Int) : Option Bool :=
  b1 (Ek a b) fun ok =>
  some ok
def FI (_walks _Af : Bw) (_Ae _start : Int) (Ab : Ci) (n : Int) : Option Bool :=
  gd (Ca ((Ab.length : Int) - 1)) <|
  b1 (EU n 0 ((Ab.length : Int) - 1)) fun ok =>
  some ok
def Kl (d : Option Qw) (out : List Int) : Option ((Option Qw) × (List Int) × Int) :=
  some (d, out, 0)
def HM (walks Af : Bw) (Ae start : Int) (Ab : Ci) (d : Option Qw) : List (Int × Int) → Int → Int → (List Int) → Option ((Option Qw) × (List Int) × Int)
  | [], _at_, _minute, aa =>
  Kl d aa
  | x :: ak, at_, minute, aa =>
  b1 (b1 (ET walks Af Ae start Ab x.1) fun ok =>
  if (!ok) = true then
  (some true)
  else
  (b1 (FI walks Af Ae start Ab x.2) fun al =>
  some (!al))) fun k2 =>
  if k2 = true then
  (some (none, [], 1))
  else
  (b8 d fun _Ax _ah _ae _ai _ad ab _AE _BH =>
  gd (0 ≤ at_ ∧ at_ < 5) <|
  gd (0 ≤ x.1 ∧ x.1 < 5) <|
  ix ab (at_ * 5 + x.1) fun x2 =>
  if x2 = (-1) then
  (some (none, [], 6))
  else
  (gd (Ca (minute + x2)) <|
  ix Ab x.2 fun x3 =>
  gd (Ca ((minute + x2) + x3.2.1)) <|
  ap aa [(minute + x2) + x3.2.1] fun aj =>
  HM walks Af Ae start Ab d ak x.1 ((minute + x2) + x3.2.1) aj))
def K2 (walks Af : Bw) (Ae start : Int) (Ab : Ci) (round : List (Int × Int)) : Option ((Option Qw) × (List Int) × Int) :=
  b2 (Cp walks Af Ae start Ab) fun d n =>
  if n ≠ 0 then
  (some (none, [], n))
  else
  (if 20 < (round.length : Int) then
  (some (none, [], 2))
  else
  (HM walks Af Ae start Ab d round start 0 []))
def I9 (x y : Int) : Option (Int × Int) :=
  bv (((NV 64 x 4294967295) * (NV 64 y 4294967295)) % 18446744073709551616) fun w0 =>
  bv (((((shr x 32) * (NV 64 y 4294967295)) % 18446744073709551616) + (shr w0 32)) % 18446744073709551616) fun t =>
  bv (((NV 64 t 4294967295) + (((NV 64 x 4294967295) * (shr y 32)) % 18446744073709551616)) % 18446744073709551616) fun w1 =>
  bv (((((((shr x 32) * (shr y 32)) % 18446744073709551616) + (shr t 32)) % 18446744073709551616) + (shr w1 32)) % 18446744073709551616) fun hi =>
  bv ((x * y) % 18446744073709551616) fun lo =>
  some (hi, lo)
def Kg (x y : Int) : Option (Int × Int) :=
  b2 (I9 x y) fun n n2 =>
  some (n, n2)
def C5 : Nat → (List Int) → Int → Option (List Int)
  | 0, _, _ => none
  | ab + 1, aa, n4 =>
  if n4 < (aa.length : Int) then
  (gd (0 ≤ n4 ∧ n4 ≤ (aa.length : Int)) <|
  gd (0 ≤ n4 ∧ n4 ≤ (aa.length : Int)) <|
  gd (0 ≤ n4 ∧ n4 < (aa.length : Int)) <|
  bv (aa.take (Int.toNat n4) ++ (aa.take (Nat.min (Int.toNat n4) (aa.length - (Int.toNat n4))) ++ aa.drop ((Int.toNat n4) + (Nat.min (Int.toNat n4) (aa.length - (Int.toNat n4)))))) fun l2 =>
  gd (Ca (n4 + (((Nat.min (Int.toNat n4) (aa.length - (Int.toNat n4))) : Nat) : Int))) <|
  bv (n4 + (((Nat.min (Int.toNat n4) (aa.length - (Int.toNat n4))) : Nat) : Int)) fun n5 =>
  C5 ab l2 n5)
  else
  (some aa)
def GO (x : List Int) (count : Int) : Option (List Int) :=
  gd (¬ (count < 0)) <|
  b2 (Kg ((x.length : Int) % 18446744073709551616) (count % 18446744073709551616)) fun n n2 =>
  gd (¬ (0 < n)) <|
  gd (¬ (9223372036854775807 < n2)) <|
  gd (Ca n2) <|
  gd (0 ≤ n2 ∧ n2 ≤ 1048576) <|
  bv (List.replicate (n2 : Int).toNat 0 : List Int) fun l =>
  bv (RC l x) fun ab =>
  bv (((Nat.min x.length l.length : Nat) : Int)) fun n3 =>
  b1 (C5 FU ab n3) fun aa =>
  some aa
def G9 (Ae : Int) : Ci → Bw → Option Bw
  | [], aa =>
  some aa
  | _x :: ad, aa =>
  b1 (GO [-1] Ae) fun l2 =>
  ap aa [l2] fun ab =>
  G9 Ae ad ab
def G7 (l : List Int) (k2 : Int) (x2 : Int × Int) : List Int → Bw → Option Bw
  | [], aa =>
  some aa
  | x4 :: ad, aa =>
  ix aa x2.2 fun x5 =>
  ix x5 x4 fun x6 =>
  ix l k2 fun x7 =>
  b1 (HK [x6, x7]) fun n2 =>
  bv (x5.set (x4 : Int).toNat n2) fun l3 =>
  bv (aa.set (x2.2 : Int).toNat l3) fun ab =>
  G7 l k2 x2 ad ab
def Hh (Af : Bw) (l : List Int) : List (Int × Int) → Int → Bw → Option Bw
  | [], _k2, aa =>
  some aa
  | x2 :: ad, k2, aa =>
  b1 (ix Af x2.1 fun x3 =>
  G7 l k2 x2 x3 aa) fun ab =>
  Hh Af l ad (k2 + 1) ab
def J8 (walks Af : Bw) (Ae start : Int) (Ab : Ci) (round : List (Int × Int)) : Option (Bw × Int) :=
  b3 (K2 walks Af Ae start Ab round) fun _d l n =>
  if n ≠ 0 then
  (some ([], n))
  else
  (b1 (G9 Ae Ab []) fun out =>
  b1 (Hh Af l round 0 out) fun aa =>
  some (aa, 0))
def Fp (Ab : Ci) (l : Bw) : List (Int × Int) → (List (Int × Int)) → Option (List (Int × Int))
  | [], aa =>
  some aa
  | x :: ad, aa =>
  ix l x.1 fun x2 =>
  ix x2 x.2 fun x3 =>
  ix Ab x.1 fun x4 =>
  b1 (EU x3 0 x4.2.2) fun ok =>
  if (!ok) = true then
  (ap aa [(x.1, x.2)] fun ab =>
  Fp Ab l ad ab)
  else
  (Fp Ab l ad aa)
def Jp (walks Af : Bw) (Ae start : Int) (Ab : Ci) (round : List (Int × Int)) : Option ((List (Int × Int)) × Int) :=
  b2 (J8 walks Af Ae start Ab round) fun l n =>
  if n ≠ 0 then
  (some ([], n))
  else
  (b2 (Cp walks Af Ae start Ab) fun d _n2 =>
  b1 (b8 d fun _Ax _ad _ab _ae _aa _ah AE _BH =>
  Fp Ab l AE []) fun out =>
  some (out, 0))
def Dw (start : Int) (Ab : Ci) (Ax : List Int) (AW B7 : Int) : Bw → Int → Int → Option Int
  | [], _k, aa =>
  some aa
  | x :: ab, k, aa =>
  gd (0 ≤ start ∧ start < 5) <|
  gd (0 ≤ k ∧ k < 5) <|
  ix Ax (start * 5 + k) fun x2 =>
  b1 (if x2 ≠ (-1) then
  (b1 (CG x B7) fun ok =>
  some ok)
  else
  (some false)) fun k2 =>
  if k2 = true then
  (ix Ab AW fun x3 =>
  gd (Ca (x2 + x3.2.1)) <|
  b1 (HK [aa, x2 + x3.2.1]) fun n =>
  Dw start Ab Ax AW B7 ab (k + 1) n)
  else
  (Dw start Ab Ax AW B7 ab (k + 1) aa)
def GY (_walks Af : Bw) (_Ae start : Int) (Ab : Ci) (Ax : List Int) (_AE : List (Int × Int)) (_BH : List Int) (AW B7 : Int) : Option Int :=
  b1 (Dw start Ab Ax AW B7 Af 0 (-1)) fun out =>
  some out
def Ct : Option Int :=
  some (-1)
def BE (f : (Int × Int) → Option Bool) : List (Int × Int) → Int → Option Int
  | [], _k =>
  Ct
  | x :: aa, k =>
  b1 (f (x.1, x.2)) fun ok =>
  if ok = true then
  (some k)
  else
  (BE f aa (k + 1))
def CM (s_ : List (Int × Int)) (f : (Int × Int) → Option Bool) : Option Int :=
  BE f s_ 0
def FQ (AW B7 aa ab : Int) : Option Bool :=
  some (decide (AW = aa ∧ B7 = ab))
def GW (_walks _Af : Bw) (_Ae _start : Int) (_Ab : Ci) (_Ax : List Int) (AE : List (Int × Int)) (_BH : List Int) (AW B7 : Int) : Option Int :=
  b1 (CM AE (fun aa : (Int × Int) => FQ aa.1 aa.2 AW B7)) fun n =>
  some n
def IY (walks Af : Bw) (Ae start : Int) (Ab : Ci) (AW B7 : Int) : Option (Int × Int) :=
  b2 (Cp walks Af Ae start Ab) fun d n =>
  if n ≠ 0 then
  (some (0, n))
  else
  (b8 d fun Ax ad ab ae aa ah AE BH =>
  b1 (GW Ax ad ab ae aa ah AE BH AW B7) fun n2 =>
  if n2 < 0 then
  (some (0, 1))
  else
  (b1 (GY Ax ad ab ae aa ah AE BH AW B7) fun n3 =>
  if n3 = (-1) then
  (some (0, 6))
  else
  (some (n3, 0))))
def Gf (k : Int) (aa : Int → Option (List ((Int × Int) × Int))) : Option (List ((Int × Int) × Int)) :=
  aa (k + 1)
def CH (BH : List Int) (BX k : Int) (aa : Int → Option (List ((Int × Int) × Int))) : Ci → Int → Option (List ((Int × Int) × Int))
  | [], _k2 =>
  Gf k aa
  | _x2 :: ab, k2 =>
  gd (0 ≤ k ∧ k < 5) <|
  gd (0 ≤ k2 ∧ k2 < 3) <|
  ix BH (k * 3 + k2) fun x3 =>
  if (Mb BX x3) ≠ BX then
  (yl ((k, k2), Mb BX x3) <|
  CH BH BX k aa ab (k2 + 1))
  else
  (CH BH BX k aa ab (k2 + 1))
def Ce (Ab : Ci) (BH : List Int) (BX : Int) : Bw → Int → Option (List ((Int × Int) × Int))
  | [], _k =>
  some []
  | _x :: aa, k =>
  CH BH BX k (Ce Ab BH BX aa) Ab 0
def G6 (_walks Af : Bw) (_Ae _start : Int) (Ab : Ci) (_Ax : List Int) (_AE : List (Int × Int)) (BH : List Int) (BX : Int) : Option (List ((Int × Int) × Int)) :=
  Ce Ab BH BX Af 0
def H7 (walks Af : Bw) (Ae start : Int) (Ab : Ci) (Ax : List Int) (AE : List (Int × Int)) (BH : List Int) (BX : Int) : Option (List ((Int × Int) × Int)) :=
  b1 (G6 walks Af Ae start Ab Ax AE BH BX) fun l =>
  some l
def BR : Nat → (List (Int × Int)) → Int → Int → Option (List (Int × Int))
  | 0, _, _, _ => none
  | ab + 1, aa, i, j =>
  if i < j then
  (ix aa j fun x =>
  ix aa i fun x2 =>
  bv (aa.set (i : Int).toNat (x.1, x.2)) fun l =>
  ix l j fun _x3 =>
  bv (l.set (j : Int).toNat (x2.1, x2.2)) fun l2 =>
  gd (Ca (i + 1)) <|
  gd (Ca (j - 1)) <|
  BR ab l2 (i + 1) (j - 1))
  else
  (some aa)
def Dk (s_ : List (Int × Int)) : Option (List (Int × Int)) :=
  gd (Ca ((s_.length : Int) - 1)) <|
  BR FU s_ 0 ((s_.length : Int) - 1)
def CK (Ab : Ci) (Ax : List Int) (ok : (Int × Int) → Option Bool) (aa : Int) (ad : List ((Int × Int) × (Int × Int × Int × Int × Int))) (k : Int) : List ((Int × Int) × Int) → (List ((Int × Int) × (Int × Int × Int × Int × Int))) → Option (List ((Int × Int) × (Int × Int × Int × Int × Int)))
  | [], ab =>
  some ab
  | x2 :: ae, ab =>
  gd (0 ≤ k ∧ k < 5) <|
  gd (0 ≤ x2.1.1 ∧ x2.1.1 < 5) <|
  ix Ax (k * 5 + x2.1.1) fun x3 =>
  if x3 = (-1) then
  (CK Ab Ax ok aa ad k ae ab)
  else
  (gd (Ca ((((BK ad (k, aa)).getD (0, 0, 0, 0, 0)).1) + x3)) <|
  ix Ab x2.1.2 fun x4 =>
  gd (Ca (((((BK ad (k, aa)).getD (0, 0, 0, 0, 0)).1) + x3) + x4.2.1)) <|
  bv (((((BK ad (k, aa)).getD (0, 0, 0, 0, 0)).1) + x3) + x4.2.1) fun end_ =>
  b1 (b1 (ok (x2.1.2, end_)) fun ai =>
  if ai = true then
  (if (!((BK ab (x2.1.1, x2.2)).isSome)) = true then
  (some true)
  else
  (some (decide (end_ < (((BK ab (x2.1.1, x2.2)).getD (0, 0, 0, 0, 0)).1)))))
  else
  (some false)) fun k2 =>
  if k2 = true then
  (bv (Pl ab (x2.1.1, x2.2) (end_, x2.1.1, x2.1.2, k, aa)) fun ah =>
  CK Ab Ax ok aa ad k ae ah)
  else
  (CK Ab Ax ok aa ad k ae ab))
def Es (walks Af : Bw) (Ae start : Int) (Ab : Ci) (Ax : List Int) (AE : List (Int × Int)) (BH : List Int) (ok : (Int × Int) → Option Bool) (aa : Int) : Bw → Int → (List ((Int × Int) × (Int × Int × Int × Int × Int))) → Option (List ((Int × Int) × (Int × Int × Int × Int × Int)))
  | [], _k, ab =>
  some ab
  | _x :: ae, k, ab =>
  b1 (if (!((BK ab (k, aa)).isSome)) = true then
  (some ab)
  else
  (b1 (H7 walks Af Ae start Ab Ax AE BH aa) fun y =>
  CK Ab Ax ok aa ab k y ab)) fun ad =>
  Es walks Af Ae start Ab Ax AE BH ok aa ae (k + 1) ad
def Er (walks Af : Bw) (Ae start : Int) (Ab : Ci) (Ax : List Int) (AE : List (Int × Int)) (BH : List Int) (BX : Int) (ok : (Int × Int) → Option Bool) : Nat → (List ((Int × Int) × (Int × Int × Int × Int × Int))) → Int → Option (List ((Int × Int) × (Int × Int × Int × Int × Int)))
  | 0, _, _ => none
  | ae + 1, ab, aa =>
  if 0 < aa then
  (b1 (if (Mb aa BX) ≠ 0 then
  (some ab)
  else
  (Es walks Af Ae start Ab Ax AE BH ok aa Af 0 ab)) fun ad =>
  gd (Ca (aa - 1)) <|
  Er walks Af Ae start Ab Ax AE BH BX ok ae ad (aa - 1))
  else
  (some ab)
def Dn (ad : List ((Int × Int) × (Int × Int × Int × Int × Int))) : Bw → Int → Int → Int → Option (Int × Int)
  | [], _k3, aa, ab =>
  some (aa, ab)
  | _x5 :: ah, k3, aa, ab =>
  b1 (if ((BK ad (k3, 0)).isSome) = true then
  (if ab = (-1) then
  (some true)
  else
  (some (decide ((((BK ad (k3, 0)).getD (0, 0, 0, 0, 0)).1) < ab))))
  else
  (some false)) fun k4 =>
  if k4 = true then
  (bv (((BK ad (k3, 0)).getD (0, 0, 0, 0, 0)).1) fun ae =>
  Dn ad ah (k3 + 1) k3 ae)
  else
  (Dn ad ah (k3 + 1) aa ab)
def Em (BX : Int) (ad : List ((Int × Int) × (Int × Int × Int × Int × Int))) : Nat → Int → Int → (List (Int × Int)) → Option (List (Int × Int))
  | 0, _, _, _ => none
  | ai + 1, aa, ab, ae =>
  if ab ≠ BX then
  (ap ae [(((BK ad (aa, ab)).getD (0, 0, 0, 0, 0)).2.1, ((BK ad (aa, ab)).getD (0, 0, 0, 0, 0)).2.2.1)] fun ah =>
  Em BX ad ai (((BK ad (aa, ab)).getD (0, 0, 0, 0, 0)).2.2.2.1) (((BK ad (aa, ab)).getD (0, 0, 0, 0, 0)).2.2.2.2) ah)
  else
  (some ae)
def Ch (walks Af : Bw) (Ae start : Int) (Ab : Ci) (Ax : List Int) (AE : List (Int × Int)) (BH : List Int) (BX : Int) (ok : (Int × Int) → Option Bool) : Option ((List (Int × Int)) × Int × Bool) :=
  bv (Pl [] (start, BX) (0, 0, 0, 0, 0)) fun met =>
  b1 (Er walks Af Ae start Ab Ax AE BH BX ok FU met BX) fun ab =>
  b2 (Dn ab Af 0 (-1) (-1)) fun aa minute =>
  if minute = (-1) then
  (some ([], 0, false))
  else
  (b1 (Em BX ab FU aa 0 []) fun out =>
  b1 (Dk out) fun s_ =>
  some (s_, minute, true))
def Gw (_walks _Af : Bw) (_Ae _start : Int) (_Ab : Ci) (_Ax : List Int) (AE : List (Int × Int)) (_BH : List Int) : Option Int :=
  gd ((0 ≤ ((AE.length : Int) : Int) ∧ ((AE.length : Int) : Int) < 64) ∧ Ca (shl 1 (AE.length : Int))) <|
  gd (Ca ((shl 1 (AE.length : Int)) - 1)) <|
  some ((shl 1 (AE.length : Int)) - 1)
def Hr (AW minute last : Int) (_walks _Af : Bw) (_Ae _start : Int) (Ab : Ci) (_Ax : List Int) (_AE : List (Int × Int)) (_BH : List Int) : Option Bool :=
  ix Ab AW fun x =>
  some (decide (minute ≤ (if x.2.2 < last then x.2.2 else last)))
def IC (walks Af : Bw) (Ae start : Int) (Ab : Ci) (Ax : List Int) (AE : List (Int × Int)) (BH : List Int) (last : Int) : Option ((Int × Int) → Option Bool) :=
  some (fun aa : Int × Int => Hr aa.1 aa.2 last walks Af Ae start Ab Ax AE BH)
def DO (walks Af : Bw) (Ae start : Int) (Ab : Ci) (Ax : List Int) (AE : List (Int × Int)) (BH : List Int) : Option ((Int × Int) → Option Bool) :=
  b1 (IC walks Af Ae start Ab Ax AE BH 200) fun y =>
  some y
def JY (walks Af : Bw) (Ae start : Int) (Ab : Ci) : Option ((List (Int × Int)) × Int × Int) :=
  b2 (Cp walks Af Ae start Ab) fun d n =>
  if n ≠ 0 then
  (some ([], 0, n))
  else
  (b8 d fun Ax ad ab ae aa ah AE BH =>
  b1 (Gw Ax ad ab ae aa ah AE BH) fun n2 =>
  b1 (DO Ax ad ab ae aa ah AE BH) fun y =>
  b3 (Ch Ax ad ab ae aa ah AE BH n2 y) fun l n3 ok =>
  if (!ok) = true then
  (some ([], 0, 6))
  else
  (some (l, n3, 0)))
def BN (s2 : List (Int × Int)) : List (Int × Int) → Int → Option Unit
  | [], _k =>
  some ()
  | x :: aa, k =>
  ix s2 k fun x2 =>
  gd (¬ (¬ (x.1 = x2.1 ∧ x.2 = x2.2))) <|
  BN s2 aa (k + 1)
def Dl (s1 s2 : List (Int × Int)) : Option Bool :=
  gd (¬ ((s1.length : Int) ≠ (s2.length : Int))) <|
  b0 (BN s2 s1 0) <|
  some true
def FH (a b : List (Int × Int)) : Option Bool :=
  b1 (Dl a b) fun ok =>
  some ok
def C4 (BX : Int) : List (Int × Int) → Int → (List (Int × Int)) → Option (List (Int × Int))
  | [], _k, aa =>
  some aa
  | x :: ad, k, aa =>
  gd (0 ≤ k ∧ k < 64) <|
  if (PU (shr BX k) 1) = 1 then
  (ap aa [(x.1, x.2)] fun ab =>
  C4 BX ad (k + 1) ab)
  else
  (C4 BX ad (k + 1) aa)
def HT (_walks _Af : Bw) (_Ae _start : Int) (_Ab : Ci) (_Ax : List Int) (AE : List (Int × Int)) (_BH : List Int) (BX : Int) : Option (List (Int × Int)) :=
  b1 (C4 BX AE 0 []) fun out =>
  some out
def Fk (aa : Int) : Option (Bool × Int) :=
  some (false, aa)
def CR (BX many : Int) (walks Af : Bw) (Ae start : Int) (Ab : Ci) (Ax : List Int) (AE : List (Int × Int)) (BH : List Int) (ok : (Int × Int) → Option Bool) (ad : Int → Int → Int → Bw → Bw → Int → Int → Ci → (List Int) → (List (Int × Int)) → (List Int) → ((Int × Int) → Option Bool) → Int → Option (Bool × Int)) : Nat → Int → Int → Option (Bool × Int)
  | 0, _i, aa =>
  Fk aa
  | ae + 1, i, aa =>
  gd ((0 ≤ (i : Int) ∧ (i : Int) < 64) ∧ Ca (shl 1 i)) <|
  gd (Ca (many - 1)) <|
  b2 (ad (PS BX (shl 1 i)) (i + 1) (many - 1) walks Af Ae start Ab Ax AE BH ok aa) fun ah ab =>
  if ah = true then
  (some (true, ab))
  else
  (CR BX many walks Af Ae start Ab Ax AE BH ok ad ae (i + 1) ab)
def Ge (aa : Int → Int → Int → Bw → Bw → Int → Int → Ci → (List Int) → (List (Int × Int)) → (List Int) → ((Int × Int) → Option Bool) → Int → Option (Bool × Int)) (BX from_ many : Int) (walks Af : Bw) (Ae start : Int) (Ab : Ci) (Ax : List Int) (AE : List (Int × Int)) (BH : List Int) (ok : (Int × Int) → Option Bool) (found : Int) : Option (Bool × Int) :=
  if many = 0 then
  (b3 (Ch walks Af Ae start Ab Ax AE BH BX ok) fun _l _n ab =>
  if (!ab) = true then
  (some (!ab, BX))
  else
  (some (!ab, found)))
  else
  (gd (Ca from_ ∧ Ca (AE.length : Int)) <|
  CR BX many walks Af Ae start Ab Ax AE BH ok aa (Int.toNat ((AE.length : Int) - from_)) from_ found)
def DJ : Nat → Int → Int → Int → Bw → Bw → Int → Int → Ci → (List Int) → (List (Int × Int)) → (List Int) → ((Int × Int) → Option Bool) → Int → Option (Bool × Int)
  | 0, _, _, _, _, _, _, _, _, _, _, _, _, _ => none
  | fu + 1, BX, from_, many, walks, Af, Ae, start, Ab, Ax, AE, BH, ok, found =>
  Ge (DJ fu) BX from_ many walks Af Ae start Ab Ax AE BH ok found
def Ds (walks Af : Bw) (Ae start : Int) (Ab : Ci) (Ax : List Int) (AE : List (Int × Int)) (BH : List Int) (ok : (Int × Int) → Option Bool) : Nat → Int → Int → Option Int
  | 0, _k, aa =>
  some aa
  | ad + 1, k, aa =>
  b2 (DJ FU 0 0 k walks Af Ae start Ab Ax AE BH ok aa) fun ae ab =>
  if ae = true then
  (some ab)
  else
  (Ds walks Af Ae start Ab Ax AE BH ok ad (k + 1) ab)
def G4 (walks Af : Bw) (Ae start : Int) (Ab : Ci) (Ax : List Int) (AE : List (Int × Int)) (BH : List Int) (ok : (Int × Int) → Option Bool) : Option Int :=
  b1 (gd (Ca ((AE.length : Int) + 1)) <|
  gd (Ca 0 ∧ Ca ((AE.length : Int) + 1)) <|
  Ds walks Af Ae start Ab Ax AE BH ok (Int.toNat (((AE.length : Int) + 1) - 0)) 0 0) fun found =>
  some found
def Ii (walks Af : Bw) (Ae start : Int) (Ab : Ci) (minute : Int) : Option ((List (Int × Int)) × Int) :=
  b2 (Cp walks Af Ae start Ab) fun d n =>
  if n ≠ 0 then
  (some ([], n))
  else
  (b1 (EU minute 0 200) fun ok =>
  if (!ok) = true then
  (some ([], 3))
  else
  (b8 d fun Ax ad ab ae aa ah AE BH =>
  b1 (IC Ax ad ab ae aa ah AE BH minute) fun y =>
  b1 (Gw Ax ad ab ae aa ah AE BH) fun n2 =>
  b3 (Ch Ax ad ab ae aa ah AE BH n2 y) fun _l _n3 ai =>
  if ai = true then
  (some ([], 6))
  else
  (b1 (G4 Ax ad ab ae aa ah AE BH y) fun n4 =>
  b1 (HT Ax ad ab ae aa ah AE BH n4) fun l2 =>
  some (l2, 0))))
def HQ (n minute x x2 : Int) (_walks _Af : Bw) (_Ae _start : Int) (Ab : Ci) (_Ax : List Int) (_AE : List (Int × Int)) (_BH : List Int) : Option Bool :=
  if n = x then
  (if minute ≤ x2 then
  (some true)
  else
  (if n ≠ x then
  (ix Ab n fun x3 =>
  some (decide (minute ≤ x3.2.2)))
  else
  (some false)))
  else
  (if n ≠ x then
  (ix Ab n fun x4 =>
  some (decide (minute ≤ x4.2.2)))
  else
  (some false))
def IX (hour : Int) (walks Af : Bw) (Ae start : Int) (Ab : Ci) (Ax : List Int) (AE : List (Int × Int)) (BH : List Int) (AW : Int) : Option Bool :=
  b1 (Gw walks Af Ae start Ab Ax AE BH) fun n =>
  b3 (Ch walks Af Ae start Ab Ax AE BH n (fun aa : Int × Int => HQ aa.1 aa.2 AW hour walks Af Ae start Ab Ax AE BH)) fun _l _n2 ok =>
  some ok
def FX (AW : Int) (Ax ad : Bw) (ab ae : Int) (aa : Ci) (ah : List Int) (AE : List (Int × Int)) (BH : List Int) : Nat → Int → Int → Option Int
  | 0, _, _ => none
  | aj + 1, ai, hi =>
  if ai < hi then
  (gd (Ca (ai + hi)) <|
  gd ((2 : Int) ≠ 0 ∧ Ca (Int.tdiv (ai + hi) 2)) <|
  b1 (IX (Int.tdiv (ai + hi) 2) Ax ad ab ae aa ah AE BH AW) fun ak =>
  if ak = true then
  (FX AW Ax ad ab ae aa ah AE BH aj ai (Int.tdiv (ai + hi) 2))
  else
  (gd (Ca ((Int.tdiv (ai + hi) 2) + 1)) <|
  FX AW Ax ad ab ae aa ah AE BH aj ((Int.tdiv (ai + hi) 2) + 1) hi))
  else
  (some ai)
def Kf (walks Af : Bw) (Ae start : Int) (Ab : Ci) (AW : Int) : Option (Int × Int) :=
  b2 (Cp walks Af Ae start Ab) fun d n =>
  if n ≠ 0 then
  (some (0, n))
  else
  (b1 (FI walks Af Ae start Ab AW) fun ok =>
  if (!ok) = true then
  (some (0, 1))
  else
  (b8 d fun Ax ad ab ae aa ah AE BH =>
  b1 (IX 200 Ax ad ab ae aa ah AE BH AW) fun ai =>
  if (!ai) = true then
  (some (0, 6))
  else
  (b1 (FX AW Ax ad ab ae aa ah AE BH FU 0 200) fun lo =>
  some (lo, 0))))
def Ey (aa : List Int) : List (Int × Int) → Int → Int → Option Int
  | [], _k, ab =>
  some ab
  | x :: ad, k, ab =>
  b1 (CG aa x.1) fun ok =>
  if ok = true then
  (gd ((0 ≤ (k : Int) ∧ (k : Int) < 64) ∧ Ca (shl 1 k)) <|
  Ey aa ad (k + 1) (PS ab (shl 1 k)))
  else
  (Ey aa ad (k + 1) ab)
def Hi (_walks _Af : Bw) (_Ae _start : Int) (_Ab : Ci) (_Ax : List Int) (AE : List (Int × Int)) (_BH aa : List Int) : Option Int :=
  b1 (Ey aa AE 0 0) fun BX =>
  some BX
def Ht (k : Int) : Nat → Int → (List Int) → (List Int) → (List Int) → Option ((List Int) × (List Int) × (List Int))
  | 0, _k2, aa, ab, ad =>
  some (aa, ab, ad)
  | ah + 1, k2, aa, ab, ad =>
  gd (Ca ((aa.length : Int) - 1)) <|
  gd (Ca (((aa.length : Int) - 1) - k2)) <|
  gd (0 ≤ (((aa.length : Int) - 1) - k2) ∧ (((aa.length : Int) - 1) - k2) < 64) <|
  ix aa k2 fun _x =>
  bv (aa.set (k2 : Int).toNat (PU (shr k (((aa.length : Int) - 1) - k2)) 1)) fun ae =>
  ix ae k2 fun x2 =>
  if x2 = 0 then
  (ap ab [k2] fun l2 =>
  Ht k ah (k2 + 1) ae l2 ad)
  else
  (gd (x2 = 1) <|
  ap ad [k2] fun l3 =>
  gd (x2 = 1) <|
  Ht k ah (k2 + 1) ae ab l3)
def IE (Ab : Ci) (d : Option Qw) : Nat → Int → (List Int) → Int → Option ((List Int) × Int)
  | 0, _k, aj, ai =>
  some (aj, ai)
  | aq + 1, k, aj, ai =>
  b2 (gd (0 ≤ (Ab.length : Int) ∧ (Ab.length : Int) ≤ 1048576) <|
  bv (List.replicate ((Ab.length : Int) : Int).toNat 0 : List Int) fun l =>
  b3 (gd (Ca 0 ∧ Ca (l.length : Int)) <|
  Ht k (Int.toNat ((l.length : Int) - 0)) 0 l [] []) fun ar au al =>
  b8 d fun Ax ad ab ae aa ah AE BH =>
  b1 (Hi Ax ad ab ae aa ah AE BH au) fun n2 =>
  b1 (DO Ax ad ab ae aa ah AE BH) fun y =>
  b3 (Ch Ax ad ab ae aa ah AE BH n2 y) fun _l4 n3 ok =>
  b1 (Hi Ax ad ab ae aa ah AE BH al) fun n4 =>
  b1 (DO Ax ad ab ae aa ah AE BH) fun y2 =>
  b3 (Ch Ax ad ab ae aa ah AE BH n4 y2) fun _l5 n5 av =>
  b1 (if ok = true then
  (if av = true then
  (if ai = (-1) then
  (some true)
  else
  (some (decide ((if n5 > n3 then n5 else n3) < ai))))
  else
  (some false))
  else
  (some false)) fun k3 =>
  if k3 = true then
  (some (ar, if n5 > n3 then n5 else n3))
  else
  (some (aj, ai))) fun ao ak =>
  IE Ab d aq (k + 1) ao ak
def LL (walks Af : Bw) (Ae start : Int) (Ab : Ci) : Option ((List Int) × Int × Int) :=
  b2 (Cp walks Af Ae start Ab) fun d n =>
  if n ≠ 0 then
  (some ([], 0, n))
  else
  (b2 (gd ((0 ≤ ((Ab.length : Int) : Int) ∧ ((Ab.length : Int) : Int) < 64) ∧ Ca (shl 1 (Ab.length : Int))) <|
  gd (Ca 0 ∧ Ca (shl 1 (Ab.length : Int))) <|
  IE Ab d (Int.toNat ((shl 1 (Ab.length : Int)) - 0)) 0 [] (-1)) fun out aa =>
  if aa = (-1) then
  (some ([], 0, 6))
  else
  (some (out, aa, 0)))
def BS : Option Bool :=
  b5 (Da) fun l l2 n n2 l3 =>
  b3 (JY l l2 n n2 l3) fun l4 n3 n4 =>
  b5 (Da) fun l5 l6 n5 n6 l7 =>
  b2 (Jp l5 l6 n5 n6 l7 l4) fun l8 n7 =>
  b5 (Da) fun l9 aa n8 n9 ab =>
  b2 (JU l9 aa n8 n9 ab 0 2) fun ad ae =>
  b5 (Da) fun ah ai aj ak al =>
  b2 (Ii ah ai aj ak al 10) fun ao aq =>
  gd (¬ (n4 ≠ 0)) <|
  gd (¬ (n7 ≠ 0)) <|
  gd (¬ (ae ≠ 0)) <|
  gd (¬ (aq ≠ 0)) <|
  gd (¬ (n3 ≠ 11)) <|
  gd (¬ (0 < (l8.length : Int))) <|
  gd (¬ (ad ≠ 4)) <|
  b1 (FH ao [(0, 0), (0, 2), (1, 1)]) fun ok =>
  gd ((!ok) = false) <|
  b5 (Da) fun ar au av aw ax =>
  b2 (Kf ar au av aw ax 1) fun ay az =>
  b5 (Da) fun ba bb bc bd bg =>
  b2 (IY ba bb bc bd bg 0 2) fun bh bj =>
  b5 (Da) fun bk bl bm bn bo =>
  b3 (LL bk bl bm bn bo) fun bp bq br =>
  gd (az = 0) <|
  gd (bj = 0) <|
  gd (br = 0) <|
  gd (ay = 6) <|
  gd (bh = 7) <|
  gd (bq = 10) <|
  b1 (D7 bp [0, 1]) fun bu =>
  some bu
def FE : Bw → Option Unit
  | [] =>
  some ()
  | x :: aa =>
  gd (¬ (8 < (x.length : Int))) <|
  FE aa
def It (l : Bw) : Option Bool :=
  b0 (FE l) <|
  some (decide (8 < (l.length : Int)))
def Ff : Ci → Option Unit
  | [] =>
  some ()
  | x :: aa =>
  gd (¬ (8 < (x.1.length : Int))) <|
  Ff aa
def Dd (walks Af : Bw) (_Ae _start : Int) (Ab : Ci) : Option Bool :=
  b0 (Ff Ab) <|
  b1 (It walks) fun ok =>
  gd (ok = false) <|
  b1 (It Af) fun aa =>
  gd (aa = false) <|
  some (decide (6 < (Ab.length : Int)))
def Hq (l : List Int) : Option (List Int) :=
  gd (0 ≤ (l.length : Int) ∧ (l.length : Int) ≤ 1048576) <|
  bv (List.replicate ((l.length : Int) : Int).toNat 0 : List Int) fun l2 =>
  bv (RC l2 l) fun out =>
  some out
def Dp : Bw → Int → Bw → Option Bw
  | [], _k, aa =>
  some aa
  | x :: ad, k, aa =>
  b1 (Hq x) fun l3 =>
  ix aa k fun _x2 =>
  bv (aa.set (k : Int).toNat l3) fun ab =>
  Dp ad (k + 1) ab
def FC (l : Bw) : Option Bw :=
  gd (0 ≤ (l.length : Int) ∧ (l.length : Int) ≤ 1048576) <|
  bv (List.replicate ((l.length : Int) : Int).toNat [] : Bw) fun l2 =>
  b1 (Dp l 0 l2) fun out =>
  some out
def HB (l : Ci) : Option Ci :=
  gd (0 ≤ (l.length : Int) ∧ (l.length : Int) ≤ 1048576) <|
  bv (List.replicate ((l.length : Int) : Int).toNat ([], 0, 0) : Ci) fun l2 =>
  bv (RC l2 l) fun out =>
  some out
def Ga : Nat → Int → Ci → Option Ci
  | 0, _k, aa =>
  some aa
  | ab + 1, k, aa =>
  ix aa k fun x =>
  b1 (Hq x.1) fun l4 =>
  bv (aa.set (k : Int).toNat (l4, x.2.1, x.2.2)) fun l5 =>
  Ga ab (k + 1) l5
def DC (walks Af : Bw) (Ae start : Int) (Ab : Ci) : Option (Bw × Bw × Int × Int × Ci) :=
  b1 (FC walks) fun l =>
  b1 (FC Af) fun l2 =>
  b1 (HB Ab) fun l3 =>
  b1 (gd (Ca 0 ∧ Ca (l3.length : Int)) <|
  Ga (Int.toNat ((l3.length : Int) - 0)) 0 l3) fun aa =>
  some (l, l2, Ae, start, aa)
def EJ : Ci → Ci → Option Ci
  | [], aa =>
  some aa
  | x :: ab, aa =>
  ap aa [(x.1, x.2.1, x.2.2)] fun out =>
  EJ ab out
def Cy (walks Af : Bw) (Ae start : Int) (Ab : Ci) : Option (Bw × Bw × Int × Int × Ci) :=
  b1 (EJ Ab []) fun aa =>
  some (walks, Af, Ae, start, aa)
def Cf (n lo hi : Int) : Option Bool :=
  if n < lo then
  (some true)
  else
  (some (decide (hi < n)))
def IK : Option Bool :=
  some false
def Gd (n : Int) : List Int → Option Bool
  | [] =>
  IK
  | x :: aa =>
  if x = n then
  (some true)
  else
  (Gd n aa)
def FM (l : List Int) (n : Int) : Option Bool :=
  Gd n l
def HF : Option Int :=
  some 0
def EG (Ae : Int) (l : List Int) : List Int → Int → Option Int
  | [], _i =>
  HF
  | x :: aa, i =>
  gd (Ca (Ae - 1)) <|
  b1 (Cf x 0 (Ae - 1)) fun ok =>
  if ok = true then
  (some 1)
  else
  (gd ((0 ≤ (0 : Int) ∧ (0 : Int) ≤ i) ∧ i ≤ l.length) <|
  bv (sl l 0 i) fun l2 =>
  b1 (FM l2 x) fun ab =>
  if ab = true then
  (some 5)
  else
  (EG Ae l aa (i + 1)))
def Ho (_walks _Af : Bw) (Ae _start : Int) (_Ab : Ci) (l : List Int) : Option Int :=
  EG Ae l l 0
def EX (walks Af : Bw) : Bw → Int → Option Unit
  | [], _i =>
  some ()
  | _x :: aa, i =>
  ix walks i fun x2 =>
  gd (¬ ((x2.length : Int) ≠ (Af.length : Int))) <|
  EX walks Af aa (i + 1)
def HZ (i2 : Int) (aa : Int → Option Int) : Option Int :=
  aa (i2 + 1)
def EW (walks : Bw) (i2 : Int) (aa : Int → Option Int) : Bw → Int → Option Int
  | [], _k2 =>
  HZ i2 aa
  | _x4 :: ab, k2 =>
  b1 (if i2 = k2 then
  (ix walks i2 fun x5 =>
  ix x5 k2 fun x6 =>
  some (decide (x6 ≠ 0)))
  else
  (some false)) fun k3 =>
  if k3 = true then
  (some 3)
  else
  (b1 (if i2 ≠ k2 then
  (ix walks i2 fun x7 =>
  ix x7 k2 fun x8 =>
  if x8 ≠ (-1) then
  (b1 (Cf x8 1 20) fun ad =>
  some ad)
  else
  (some false))
  else
  (some false)) fun k4 =>
  if k4 = true then
  (some 3)
  else
  (EW walks i2 aa ab (k2 + 1)))
def H5 (AE : Int) : Option Int :=
  gd (¬ (9 < AE)) <|
  some 0
def E9 (walks Af : Bw) (Ae start : Int) (Ab : Ci) : Ci → Int → Option Int
  | [], aa =>
  H5 aa
  | ad :: ae, aa =>
  gd (¬ ((ad.1.length : Int) = 0)) <|
  b1 (Ho walks Af Ae start Ab ad.1) fun n2 =>
  if n2 ≠ 0 then
  (some n2)
  else
  (b1 (b1 (Cf ad.2.1 1 5) fun ah =>
  if ah = true then
  (some true)
  else
  (b1 (Cf ad.2.2 0 200) fun ai =>
  some ai)) fun k5 =>
  if k5 = true then
  (some 3)
  else
  (gd (Ca (aa + (ad.1.length : Int))) <|
  bv (aa + (ad.1.length : Int)) fun ab =>
  E9 walks Af Ae start Ab ae ab))
def HS (walks Af : Bw) (Ae start : Int) (Ab : Ci) : Option Int :=
  E9 walks Af Ae start Ab Ab 0
def Fa (walks Af : Bw) (Ae start : Int) (Ab : Ci) : Bw → Option Int
  | [] =>
  HS walks Af Ae start Ab
  | x9 :: aa =>
  b1 (Ho walks Af Ae start Ab x9) fun n =>
  if n ≠ 0 then
  (some n)
  else
  (Fa walks Af Ae start Ab aa)
def HX (walks Af : Bw) (Ae start : Int) (Ab : Ci) : Option Int :=
  Fa walks Af Ae start Ab Af
def Dh (walks Af : Bw) (Ae start : Int) (Ab : Ci) : Bw → Int → Option Int
  | [], _i2 =>
  HX walks Af Ae start Ab
  | _x3 :: aa, i2 =>
  EW walks i2 (Dh walks Af Ae start Ab aa) Af 0
def CT (walks Af : Bw) (Ae start : Int) (Ab : Ci) : Option Int :=
  b1 (b1 (Cf (Af.length : Int) 1 5) fun ok =>
  if ok = true then
  (some true)
  else
  (b1 (Cf Ae 1 5) fun aa =>
  if aa = true then
  (some true)
  else
  (if 3 < (Ab.length : Int) then
  (some true)
  else
  (some (decide ((walks.length : Int) ≠ (Af.length : Int))))))) fun k =>
  if k = true then
  (some 2)
  else
  (b0 (EX walks Af Af 0) <|
  gd (Ca ((Af.length : Int) - 1)) <|
  b1 (Cf start 0 ((Af.length : Int) - 1)) fun ab =>
  if ab = true then
  (some 1)
  else
  (Dh walks Af Ae start Ab Af 0))
def Dm (s_ : List (Int × Int)) : Option (List (Int × Int)) :=
  Oj (s_ = []) (some []) (ap ([] : List (Int × Int)) s_ fun l =>
  some l)
def J7 (walks Af : Bw) (Ae start : Int) (Ab : Ci) : Option ((List (Int × Int)) × Int) :=
  b2 (Cp walks Af Ae start Ab) fun d n =>
  if n ≠ 0 then
  (some ([], n))
  else
  (b8 d fun _Ax _ad _ab _ae _aa _ah AE _BH =>
  b1 (Dm AE) fun l =>
  some (l, 0))
def Bu (s2 : List (Int × Int)) : List (Int × Int) → Int → Option Unit
  | [], _k =>
  some ()
  | x :: aa, k =>
  ix s2 k fun x2 =>
  gd (¬ (¬ (x.1 = x2.1 ∧ x.2 = x2.2))) <|
  Bu s2 aa (k + 1)
def Cm (s1 s2 : List (Int × Int)) : Option Bool :=
  gd (¬ ((s1.length : Int) ≠ (s2.length : Int))) <|
  b0 (Bu s2 s1 0) <|
  some true
def Cj (a b : List (Int × Int)) : Option Bool :=
  b1 (Cm a b) fun ok =>
  some ok
def EF : List (Int × Int) → (List (Int × Int)) → Option (List (Int × Int))
  | [], aa =>
  some aa
  | x :: ad, aa =>
  ap aa [(x.1, x.2)] fun ab =>
  EF ad ab
def Cw (l : List (Int × Int)) : Option (List (Int × Int)) :=
  b1 (EF l []) fun out =>
  some out
def Ea (n : Int) (x : (List Int) × Int × Int) : Nat → Int → (List (Int × Int)) → Option (List (Int × Int))
  | 0, _h, aa =>
  some aa
  | ad + 1, h, aa =>
  b1 (FM x.1 h) fun ok =>
  if ok = true then
  (ap aa [(n, h)] fun ab =>
  Ea n x ad (h + 1) ab)
  else
  (Ea n x ad (h + 1) aa)
def EY (Ae : Int) : Ci → Int → (List (Int × Int)) → Option (List (Int × Int))
  | [], _n, aa =>
  some aa
  | x :: ad, n, aa =>
  b1 (gd (Ca 0 ∧ Ca Ae) <|
  Ea n x (Int.toNat (Ae - 0)) 0 aa) fun ab =>
  EY Ae ad (n + 1) ab
def Cc (_walks _Af : Bw) (Ae _start : Int) (Ab : Ci) : Option (List (Int × Int)) :=
  b1 (EY Ae Ab 0 []) fun out =>
  some out
def FB (s_ : List Int) : Option (List Int) :=
  Oj (s_ = []) (some []) (ap ([] : List Int) s_ fun l =>
  some l)
def Iz (Af : Bw) : Bw → Int → Bw → Bw → Option (Bw × Bw)
  | [], _k, aa, ab =>
  some (aa, ab)
  | x :: ae, k, aa, ab =>
  ix aa k fun _x2 =>
  gd (0 ≤ (x.length : Int) ∧ (x.length : Int) ≤ 1048576) <|
  bv (List.replicate ((x.length : Int) : Int).toNat 0 : List Int) fun l3 =>
  bv (aa.set (k : Int).toNat l3) fun l4 =>
  ix l4 k fun x3 =>
  bv (RC x3 x) fun l5 =>
  ix ab k fun _x4 =>
  ix Af k fun x5 =>
  gd (0 ≤ (x5.length : Int) ∧ (x5.length : Int) ≤ 1048576) <|
  bv (List.replicate ((x5.length : Int) : Int).toNat 0 : List Int) fun l6 =>
  bv (ab.set (k : Int).toNat l6) fun l7 =>
  ix l7 k fun x6 =>
  bv (RC x6 x5) fun l8 =>
  bv (l4.set (k : Int).toNat l5) fun out =>
  bv (l7.set (k : Int).toNat l8) fun ad =>
  Iz Af ae (k + 1) out ad
def IF : Ci → Ci → Option Ci
  | [], aa =>
  some aa
  | x7 :: ad, aa =>
  b1 (FB x7.1) fun l9 =>
  ap aa [(l9, x7.2.1, x7.2.2)] fun ab =>
  IF ad ab
def Nc (walks Af : Bw) (Ae start : Int) (Ab : Ci) (AW hour : Int) : Option (Bw × Bw × Int × Int × Ci × Int) :=
  b1 (Gj walks Af Ae start Ab) fun n =>
  if n ≠ 0 then
  (some ([], [], 0, 0, [], n))
  else
  (b1 (FI walks Af Ae start Ab AW) fun ok =>
  if (!ok) = true then
  (some ([], [], 0, 0, [], 1))
  else
  (b1 (EU hour 0 200) fun ah =>
  if (!ah) = true then
  (some ([], [], 0, 0, [], 3))
  else
  (gd (0 ≤ (walks.length : Int) ∧ (walks.length : Int) ≤ 1048576) <|
  gd (0 ≤ (Af.length : Int) ∧ (Af.length : Int) ≤ 1048576) <|
  bv (List.replicate ((Af.length : Int) : Int).toNat [] : Bw) fun l =>
  bv (List.replicate (Int.toNat (walks.length : Int)) [] : Bw) fun l2 =>
  b2 (Iz Af walks 0 l2 l) fun ab ad =>
  b1 (IF Ab []) fun aa =>
  ix aa AW fun x8 =>
  bv (aa.set (AW : Int).toNat (x8.1, x8.2.1, hour)) fun ae =>
  some (ab, ad, Ae, start, ae, 0))))
def BZ (s2 : Bw) (eq : ((List Int) × (List Int)) → Option Bool) : Bw → Int → Option Unit
  | [], _k =>
  some ()
  | x :: aa, k =>
  ix s2 k fun x2 =>
  b1 (eq (x, x2)) fun ok =>
  gd ((!ok) = false) <|
  BZ s2 eq aa (k + 1)
def DK (s1 s2 : Bw) (eq : ((List Int) × (List Int)) → Option Bool) : Option Bool :=
  gd (¬ ((s1.length : Int) ≠ (s2.length : Int))) <|
  b0 (BZ s2 eq s1 0) <|
  some true
def Eu (a b : Bw) : Option Bool :=
  b1 (DK a b (fun aa : (List Int) × (List Int) => Ek aa.1 aa.2)) fun ok =>
  some ok
def FF (aa : Ci) : Ci → Int → Option Unit
  | [], _k =>
  some ()
  | x :: ab, k =>
  ix aa k fun x2 =>
  gd (¬ (x.2.1 ≠ x2.2.1)) <|
  gd (¬ (x.2.2 ≠ x2.2.2)) <|
  b1 (D7 x.1 x2.1) fun ad =>
  gd ((!ad) = false) <|
  FF aa ab (k + 1)
def CO (walks Af : Bw) (Ae start : Int) (Ab : Ci) (Ax ad : Bw) (ab ae : Int) (aa : Ci) : Option Bool :=
  gd (¬ (Ae ≠ ab)) <|
  gd (¬ (start ≠ ae)) <|
  gd (¬ ((Ab.length : Int) ≠ (aa.length : Int))) <|
  b1 (Eu walks Ax) fun ok =>
  gd ((!ok) = false) <|
  b1 (Eu Af ad) fun ah =>
  gd ((!ah) = false) <|
  b0 (FF aa Ab 0) <|
  some true
def Dr : Nat → Int → Bw → Option Unit
  | 0, _k5, _k4 =>
  some ()
  | aa + 1, k5, k4 =>
  ix k4 k5 fun x2 =>
  bv (List.replicate x2.length 0 : List Int) fun r2 =>
  bv (k4.set (k5 : Int).toNat r2) fun ab =>
  Dr aa (k5 + 1) ab
def Dz : Nat → Int → Ci → Option Unit
  | 0, _k7, _k6 =>
  some ()
  | aa + 1, k7, k6 =>
  ix k6 k7 fun x3 =>
  bv (List.replicate x3.1.length 0 : List Int) fun ab =>
  bv (k6.set (k7 : Int).toNat (ab, x3.2)) fun ad =>
  Dz aa (k7 + 1) ad
def B8 (walks Af : Bw) (Ae start : Int) (Ab : Ci) (AW hour : Int) : Option Bool :=
  b1 (Dd walks Af Ae start Ab) fun ok =>
  if ok = true then
  (b1 (BS) fun aq =>
  some aq)
  else
  (b5 (DC walks Af Ae start Ab) fun l l2 n n2 l3 =>
  b5 (Cy walks Af Ae start Ab) fun l4 l5 n3 n4 l6 =>
  b1 (CT l4 l5 n3 n4 l6) fun n5 =>
  b1 (Gj l l2 n n2 l3) fun n6 =>
  gd (¬ (n6 ≠ n5)) <|
  b2 (J7 l l2 n n2 l3) fun l7 n7 =>
  b1 (gd (¬ (n7 ≠ n5)) <|
  if n5 ≠ 0 then
  (gd (¬ (0 < (l7.length : Int))) <|
  if n5 = 0 then
  (b1 (Cw l7) fun l8 =>
  b1 (Cc l4 l5 n3 n4 l6) fun l9 =>
  b1 (Cj l8 l9) fun ar =>
  some (!ar))
  else
  (some false))
  else
  (if n5 = 0 then
  (b1 (Cw l7) fun au =>
  b1 (Cc l4 l5 n3 n4 l6) fun av =>
  b1 (Cj au av) fun aw =>
  some (!aw))
  else
  (some false))) fun k =>
  gd (k = false) <|
  b6 (Nc l l2 n n2 l3 AW hour) fun ak al n8 n9 ai ax =>
  b6 (if n5 ≠ 0 then
  (some (n5, [], [], 0, 0, []))
  else
  (b1 (if AW < 0 then
  (some true)
  else
  (some (decide ((Ab.length : Int) ≤ AW)))) fun k2 =>
  if k2 = true then
  (some (1, [], [], 0, 0, []))
  else
  (b1 (if hour < 0 then
  (some true)
  else
  (some (decide (200 < hour)))) fun k3 =>
  if k3 = true then
  (some (3, [], [], 0, 0, []))
  else
  (b5 (DC walks Af Ae start Ab) fun ay az ba bb ao =>
  ix ao AW fun x =>
  bv (ao.set (AW : Int).toNat (x.1, x.2.1, hour)) fun want =>
  some (n5, ay, az, ba, bb, want))))) fun w ad ae ab ah aa =>
  gd (¬ (ax ≠ w)) <|
  b1 (CO ak al n8 n9 ai ad ae ab ah aa) fun bc =>
  gd ((!bc) = false) <|
  b0 (ap ak al fun aj =>
  gd (Ca 0 ∧ Ca (aj.length : Int)) <|
  Dr (Int.toNat ((aj.length : Int) - 0)) 0 aj) <|
  b0 (gd (Ca 0 ∧ Ca (ai.length : Int)) <|
  Dz (Int.toNat ((ai.length : Int) - 0)) 0 ai) <|
  b1 (CO l l2 n n2 l3 walks Af Ae start Ab) fun bd =>
  gd (bd = true) <|
  b1 (BS) fun bg =>
  some bg)
def E5 (walks : Bw) : Bw → Int → Bw → Option Bw
  | [], _i, aa =>
  some aa
  | _x :: ad, i, aa =>
  ix walks i fun x2 =>
  ap ([] : List Int) x2 fun l =>
  ap aa [l] fun ab =>
  E5 walks ad (i + 1) ab
def Dj (walks : Bw) (i2 k : Int) : Bw → Int → Bw → Bool → Option (Bw × Bool)
  | [], _ah, ab, aa =>
  some (ab, aa)
  | _x5 :: aj, ah, ab, aa =>
  b2 (ix ab i2 fun x6 =>
  ix x6 ah fun x7 =>
  if x7 < 0 then
  (some (ab, true))
  else
  (ix walks ah fun x8 =>
  ix x8 k fun x9 =>
  some (ab, decide (x9 < 0)))) fun ad k2 =>
  if k2 = true then
  (Dj walks i2 k aj (ah + 1) ad aa)
  else
  (ix ad i2 fun ao =>
  ix ao ah fun ak =>
  ix walks ah fun au =>
  ix au k fun al =>
  gd (Ca (ak + al)) <|
  b2 (ix ao k fun aq =>
  if aq < 0 then
  (some (ad, true))
  else
  (some (ad, decide ((ak + al) < aq)))) fun ae k3 =>
  if k3 = true then
  (ix ae i2 fun ar =>
  ix ar k fun _av =>
  bv (ar.set (k : Int).toNat (ak + al)) fun l2 =>
  bv (ae.set (i2 : Int).toNat l2) fun ai =>
  Dj walks i2 k aj (ah + 1) ai true)
  else
  (Dj walks i2 k aj (ah + 1) ae aa))
def E8 (walks Af : Bw) (i2 : Int) : Bw → Int → Bw → Bool → Option (Bw × Bool)
  | [], _k, ad, aa =>
  some (ad, aa)
  | _x4 :: ah, k, ad, aa =>
  b2 (Dj walks i2 k Af 0 ad aa) fun ae ab =>
  E8 walks Af i2 ah (k + 1) ae ab
def E4 (walks Af : Bw) (ae : Bw → Bool → Option Bw) : Bw → Int → Bw → Bool → Option Bw
  | [], _i2, ad, aa =>
  ae ad aa
  | _x3 :: ai, i2, ad, aa =>
  b2 (E8 walks Af i2 Af 0 ad aa) fun ah ab =>
  E4 walks Af ae ai (i2 + 1) ah ab
def D6 (walks Af : Bw) : Nat → Bw → Bool → Option Bw
  | 0, _, _ => none
  | ab + 1, aa, changed =>
  if changed = true then
  (E4 walks Af (D6 walks Af ab) Af 0 aa false)
  else
  (some aa)
def Fo (walks Af : Bw) (_Ae _start : Int) (_Ab : Ci) : Option Bw :=
  b1 (E5 walks Af 0 []) fun out =>
  b1 (D6 walks Af FU out true) fun aa =>
  some aa
def JA (walks Af : Bw) (Ae start : Int) (Ab : Ci) (from_ to : Int) : Option (Int × Int) :=
  b1 (CT walks Af Ae start Ab) fun n =>
  if n ≠ 0 then
  (some (0, n))
  else
  (b1 (gd (Ca ((Af.length : Int) - 1)) <|
  b1 (Cf from_ 0 ((Af.length : Int) - 1)) fun ok =>
  if ok = true then
  (some true)
  else
  (gd (Ca ((Af.length : Int) - 1)) <|
  b1 (Cf to 0 ((Af.length : Int) - 1)) fun aa =>
  some aa)) fun k =>
  if k = true then
  (some (0, 1))
  else
  (b1 (Fo walks Af Ae start Ab) fun l =>
  ix l from_ fun x =>
  ix x to fun x2 =>
  if x2 < 0 then
  (some (0, 6))
  else
  (some (x2, 0))))
def HL (to : Int) (d : Option Qw) (aa : Int) : List Int → Int → Option Int
  | [], _k =>
  some aa
  | x2 :: aj, k =>
  b1 (if 0 < x2 then
  (b8 d fun _Ax _ah _ae _ai _ad ab _AE _BH =>
  gd (0 ≤ k ∧ k < 5) <|
  gd (0 ≤ to ∧ to < 5) <|
  ix ab (k * 5 + to) fun x3 =>
  gd (x3 ≠ (-1)) <|
  gd (0 ≤ k ∧ k < 5) <|
  gd (0 ≤ to ∧ to < 5) <|
  gd (Ca (x2 + x3)) <|
  gd (0 ≤ aa ∧ aa < 5) <|
  gd (0 ≤ to ∧ to < 5) <|
  ix ab (aa * 5 + to) fun x4 =>
  some (decide ((x2 + x3) = x4)))
  else
  (some false)) fun k2 =>
  if k2 = true then
  (some k)
  else
  (HL to d aa aj (k + 1))
def HJ (walks : Bw) (to : Int) (d : Option Qw) : Nat → Int → (List Int) → Option (List Int)
  | 0, _, _ => none
  | ah + 1, aa, ad =>
  if aa ≠ to then
  (b1 (ix walks aa fun x =>
  HL to d aa x 0) fun ab =>
  ap ad [ab] fun ae =>
  HJ walks to d ah ab ae)
  else
  (some ad)
def Mr (walks Af : Bw) (Ae start : Int) (Ab : Ci) (from_ to : Int) : Option ((List Int) × Int) :=
  b2 (JU walks Af Ae start Ab from_ to) fun _n n2 =>
  if n2 ≠ 0 then
  (some ([], n2))
  else
  (b2 (Cp walks Af Ae start Ab) fun d _n3 =>
  b1 (HJ walks to d FU from_ [from_]) fun out =>
  some (out, 0))
def Ec (walks Af : Bw) (path : List Int) : List Int → Int → Int → Option Int
  | [], _i, aa =>
  some aa
  | x :: ab, i, aa =>
  gd (Ca ((Af.length : Int) - 1)) <|
  b1 (Cf x 0 ((Af.length : Int) - 1)) fun ok =>
  gd (ok = false) <|
  if i = 0 then
  (Ec walks Af path ab (i + 1) aa)
  else
  (gd (Ca (i - 1)) <|
  ix path (i - 1) fun x2 =>
  ix walks x2 fun x3 =>
  ix x3 x fun x4 =>
  gd (¬ (x4 < 1)) <|
  gd (Ca (aa + x4)) <|
  Ec walks Af path ab (i + 1) (aa + x4))
def Ji (walks Af : Bw) (_Ae _start : Int) (_Ab : Ci) (path : List Int) : Option Int :=
  b1 (Ec walks Af path path 0 0) fun sum =>
  some sum
def Eg (walks Af : Bw) (Ae start : Int) (Ab : Ci) (from_ to : Int) : Option Bool :=
  b1 (Dd walks Af Ae start Ab) fun ok =>
  gd (ok = false) <|
  b5 (DC walks Af Ae start Ab) fun l l2 n n2 l3 =>
  b5 (Cy walks Af Ae start Ab) fun l4 l5 n3 n4 l6 =>
  b2 (JU l l2 n n2 l3 from_ to) fun n5 n6 =>
  b2 (JA l4 l5 n3 n4 l6 from_ to) fun n7 n8 =>
  b2 (Mr l l2 n n2 l3 from_ to) fun l7 n9 =>
  b1 (gd (¬ (n5 ≠ n7)) <|
  gd (¬ (n6 ≠ n8)) <|
  gd (¬ (n9 ≠ n8)) <|
  if n8 ≠ 0 then
  (some (decide (0 < (l7.length : Int))))
  else
  (some false)) fun k =>
  gd (k = false) <|
  b1 (if n8 = 0 then
  (gd (¬ ((l7.length : Int) = 0)) <|
  ix l7 0 fun x =>
  gd (¬ (x ≠ from_)) <|
  gd (Ca ((l7.length : Int) - 1)) <|
  ix l7 ((l7.length : Int) - 1) fun x2 =>
  gd (¬ (x2 ≠ to)) <|
  b1 (Ji l4 l5 n3 n4 l6 l7) fun aa =>
  some (decide (aa ≠ n7)))
  else
  (some false)) fun k2 =>
  gd (k2 = false) <|
  b1 (CO l l2 n n2 l3 walks Af Ae start Ab) fun ab =>
  gd (ab = true) <|
  b1 (BS) fun ad =>
  some ad
def IV (l : List (Int × Int)) : Option (List (Int × Int)) :=
  gd (0 ≤ (l.length : Int) ∧ (l.length : Int) ≤ 1048576) <|
  bv (List.replicate ((l.length : Int) : Int).toNat (0, 0) : List (Int × Int)) fun l2 =>
  bv (RC l2 l) fun out =>
  some out
def Md (walks Af : Bw) (Ae start : Int) (Ab : Ci) (round : List (Int × Int)) : Option ((List Int) × Int) :=
  b3 (K2 walks Af Ae start Ab round) fun _d l n =>
  some (l, n)
def ID (out : List Int) : Option ((List Int) × Int) :=
  some (out, 0)
def Fv (Af : Bw) (Ab : Ci) (l : Bw) : List (Int × Int) → Int → Int → (List Int) → Option ((List Int) × Int)
  | [], _at_, _minute, aa =>
  ID aa
  | x :: ad, at_, minute, aa =>
  b1 (gd (Ca ((Af.length : Int) - 1)) <|
  b1 (Cf x.1 0 ((Af.length : Int) - 1)) fun ok =>
  if ok = true then
  (some true)
  else
  (gd (Ca ((Ab.length : Int) - 1)) <|
  b1 (Cf x.2 0 ((Ab.length : Int) - 1)) fun ae =>
  some ae)) fun k =>
  if k = true then
  (some ([], 1))
  else
  (ix l at_ fun x2 =>
  ix x2 x.1 fun x3 =>
  if x3 < 0 then
  (some ([], 6))
  else
  (gd (Ca (minute + x3)) <|
  ix Ab x.2 fun x4 =>
  gd (Ca ((minute + x3) + x4.2.1)) <|
  ap aa [(minute + x3) + x4.2.1] fun ab =>
  Fv Af Ab l ad x.1 ((minute + x3) + x4.2.1) ab))
def G5 (walks Af : Bw) (Ae start : Int) (Ab : Ci) (round : List (Int × Int)) : Option ((List Int) × Int) :=
  b1 (CT walks Af Ae start Ab) fun n =>
  if n ≠ 0 then
  (some ([], n))
  else
  (if 20 < (round.length : Int) then
  (some ([], 2))
  else
  (b1 (Fo walks Af Ae start Ab) fun l =>
  Fv Af Ab l round start 0 []))
def E6 : List (Int × Int) → (List (Int × Int)) → Option (List (Int × Int))
  | [], aa =>
  some aa
  | x :: ad, aa =>
  ap aa [(x.1, x.2)] fun ab =>
  E6 ad ab
def EB (l : List (Int × Int)) : Option (List (Int × Int)) :=
  b1 (E6 l []) fun out =>
  some out
def Eb (Af : Bw) (round : List (Int × Int)) (l : List Int) (n2 h : Int) : Nat → (List Int) → Int → Option (List Int)
  | 0, _, _ => none
  | aa + 1, l7, i =>
  if 0 ≤ i then
  (b1 (ix round i fun x3 =>
  if x3.2 = n2 then
  (ix Af x3.1 fun x4 =>
  b1 (FM x4 h) fun ok =>
  some ok)
  else
  (some false)) fun k =>
  if k = true then
  (ix l i fun x5 =>
  ix l7 h fun _x6 =>
  bv (l7.set (h : Int).toNat x5) fun l8 =>
  gd (Ca (i - 1)) <|
  Eb Af round l n2 h aa l8 (i - 1))
  else
  (gd (Ca (i - 1)) <|
  Eb Af round l n2 h aa l7 (i - 1)))
  else
  (some l7)
def Fb (Af : Bw) (round : List (Int × Int)) (l : List Int) (n2 : Int) : Nat → Int → (List Int) → Option (List Int)
  | 0, _h, l4 =>
  some l4
  | aa + 1, h, l4 =>
  b1 (ix l4 h fun _x2 =>
  bv (l4.set (h : Int).toNat (-1)) fun l6 =>
  gd (Ca ((round.length : Int) - 1)) <|
  Eb Af round l n2 h FU l6 ((round.length : Int) - 1)) fun l5 =>
  Fb Af round l n2 aa (h + 1) l5
def EZ (Af : Bw) (Ae : Int) (round : List (Int × Int)) (l : List Int) : Ci → Int → Bw → Option Bw
  | [], _n2, aa =>
  some aa
  | _x :: ae, n2, aa =>
  b1 (gd (0 ≤ Ae ∧ Ae ≤ 1048576) <|
  bv (List.replicate (Ae : Int).toNat 0 : List Int) fun l2 =>
  b1 (gd (Ca 0 ∧ Ca Ae) <|
  Fb Af round l n2 (Int.toNat (Ae - 0)) 0 l2) fun l3 =>
  ap aa [l3] fun ab =>
  some ab) fun ad =>
  EZ Af Ae round l ae (n2 + 1) ad
def HN (walks Af : Bw) (Ae start : Int) (Ab : Ci) (round : List (Int × Int)) : Option (Bw × Int) :=
  b2 (G5 walks Af Ae start Ab round) fun l n =>
  if n ≠ 0 then
  (some ([], n))
  else
  (b1 (EZ Af Ae round l Ab 0 []) fun out =>
  some (out, 0))
def DW (Ab : Ci) (l : Bw) : List (Int × Int) → (List (Int × Int)) → Option (List (Int × Int))
  | [], aa =>
  some aa
  | x :: ad, aa =>
  ix l x.1 fun x2 =>
  ix x2 x.2 fun x3 =>
  b1 (if x3 < 0 then
  (some true)
  else
  (ix Ab x.1 fun x4 =>
  some (decide (x4.2.2 < x3)))) fun k =>
  if k = true then
  (ap aa [(x.1, x.2)] fun ab =>
  DW Ab l ad ab)
  else
  (DW Ab l ad aa)
def Hu (walks Af : Bw) (Ae start : Int) (Ab : Ci) (round : List (Int × Int)) : Option ((List (Int × Int)) × Int) :=
  b2 (HN walks Af Ae start Ab round) fun l n =>
  if n ≠ 0 then
  (some ([], n))
  else
  (b1 (Cc walks Af Ae start Ab) fun l2 =>
  b1 (DW Ab l l2 []) fun out =>
  some (out, 0))
def BY (s2 : List (Int × Int)) : List (Int × Int) → Int → Option Unit
  | [], _k =>
  some ()
  | x :: aa, k =>
  ix s2 k fun x2 =>
  gd (¬ (¬ (x.1 = x2.1 ∧ x.2 = x2.2))) <|
  BY s2 aa (k + 1)
def DE (s1 s2 : List (Int × Int)) : Option Bool :=
  gd (¬ ((s1.length : Int) ≠ (s2.length : Int))) <|
  b0 (BY s2 s1 0) <|
  some true
def IL (a b : List (Int × Int)) : Option Bool :=
  b1 (DE a b) fun ok =>
  some ok
def EC (walks Af : Bw) (Ae start : Int) (Ab : Ci) (l : List (Int × Int)) : Option Bool :=
  b1 (Dd walks Af Ae start Ab) fun ok =>
  gd (ok = false) <|
  gd (¬ (24 < (l.length : Int))) <|
  b5 (DC walks Af Ae start Ab) fun l2 l3 n n2 l4 =>
  b1 (IV l) fun l5 =>
  b5 (Cy walks Af Ae start Ab) fun l6 l7 n3 n4 l8 =>
  b2 (Md l2 l3 n n2 l4 l5) fun l9 n5 =>
  b1 (EB l) fun aa =>
  b2 (G5 l6 l7 n3 n4 l8 aa) fun ab n6 =>
  gd (¬ (n5 ≠ n6)) <|
  b1 (D7 l9 ab) fun ad =>
  gd ((!ad) = false) <|
  b2 (J8 l2 l3 n n2 l4 l5) fun ae n7 =>
  b1 (EB l) fun ah =>
  b2 (HN l6 l7 n3 n4 l8 ah) fun ai n8 =>
  gd (¬ (n7 ≠ n8)) <|
  b1 (Eu ae ai) fun aj =>
  gd ((!aj) = false) <|
  b2 (Jp l2 l3 n n2 l4 l5) fun ak n9 =>
  b1 (EB l) fun al =>
  b2 (Hu l6 l7 n3 n4 l8 al) fun ao aq =>
  gd (n9 = aq) <|
  b1 (Cw ak) fun ar =>
  b1 (Cj ar ao) fun au =>
  gd (au = true) <|
  b1 (CO l2 l3 n n2 l4 walks Af Ae start Ab) fun av =>
  gd (av = true) <|
  b1 (IL l5 l) fun aw =>
  gd (aw = true) <|
  b1 (BS) fun ax =>
  some ax
def GK (Ab : Ci) (Ax ad : Bw) (ab ae : Int) (aa : Ci) (ah : List Int) (AE : List (Int × Int)) (BH : List Int) : List (Int × Int) → (List (Int × Int)) → Option (List (Int × Int))
  | [], ai =>
  some ai
  | x :: ak, ai =>
  b1 (GY Ax ad ab ae aa ah AE BH x.1 x.2) fun n2 =>
  ix Ab x.1 fun x2 =>
  b1 (EU n2 0 x2.2.2) fun ok =>
  if (!ok) = true then
  (ap ai [(x.1, x.2)] fun aj =>
  GK Ab Ax ad ab ae aa ah AE BH ak aj)
  else
  (GK Ab Ax ad ab ae aa ah AE BH ak ai)
def Mm (walks Af : Bw) (Ae start : Int) (Ab : Ci) : Option ((List (Int × Int)) × Int) :=
  b2 (Cp walks Af Ae start Ab) fun d n =>
  if n ≠ 0 then
  (some ([], n))
  else
  (b1 (b8 d fun Ax ad ab ae aa ah AE BH =>
  GK Ab Ax ad ab ae aa ah AE BH AE []) fun out =>
  some (out, 0))
def CS (start : Int) (Ab : Ci) (AW B7 : Int) (l : Bw) : Bw → Int → Int → Option Int
  | [], _s_, aa =>
  some aa
  | x :: ab, s_, aa =>
  ix l start fun x2 =>
  ix x2 s_ fun x3 =>
  b1 (if x3 < 0 then
  (some true)
  else
  (b1 (FM x B7) fun ok =>
  some (!ok))) fun k =>
  if k = true then
  (CS start Ab AW B7 l ab (s_ + 1) aa)
  else
  (ix Ab AW fun x4 =>
  gd (Ca (x3 + x4.2.1)) <|
  b1 (if aa < 0 then
  (some true)
  else
  (some (decide ((x3 + x4.2.1) < aa)))) fun k2 =>
  if k2 = true then
  (CS start Ab AW B7 l ab (s_ + 1) (x3 + x4.2.1))
  else
  (CS start Ab AW B7 l ab (s_ + 1) aa))
def GV (walks Af : Bw) (Ae start : Int) (Ab : Ci) (AW B7 : Int) : Option Int :=
  b1 (Fo walks Af Ae start Ab) fun l =>
  b1 (CS start Ab AW B7 l Af 0 (-1)) fun out =>
  some out
def Ew (walks Af : Bw) (Ae start : Int) (Ab : Ci) : List (Int × Int) → (List (Int × Int)) → Option (List (Int × Int))
  | [], aa =>
  some aa
  | x :: ad, aa =>
  b1 (GV walks Af Ae start Ab x.1 x.2) fun n =>
  b1 (if n < 0 then
  (some true)
  else
  (ix Ab x.1 fun x2 =>
  some (decide (x2.2.2 < n)))) fun k =>
  if k = true then
  (ap aa [(x.1, x.2)] fun ab =>
  Ew walks Af Ae start Ab ad ab)
  else
  (Ew walks Af Ae start Ab ad aa)
def Iu (walks Af : Bw) (Ae start : Int) (Ab : Ci) : Option (List (Int × Int)) :=
  b1 (Cc walks Af Ae start Ab) fun l =>
  b1 (Ew walks Af Ae start Ab l []) fun out =>
  some out
def Jc : Option Bool :=
  some false
def GG (AW B7 : Int) : List (Int × Int) → Option Bool
  | [] =>
  Jc
  | x :: aa =>
  if x.1 = AW ∧ x.2 = B7 then
  (some true)
  else
  (GG AW B7 aa)
def Jv (walks Af : Bw) (Ae start : Int) (Ab : Ci) (AW B7 : Int) : Option Bool :=
  b1 (Cc walks Af Ae start Ab) fun l =>
  GG AW B7 l
def Ep (walks Af : Bw) (Ae start : Int) (Ab : Ci) (AW B7 : Int) : Option Bool :=
  b1 (Dd walks Af Ae start Ab) fun ok =>
  if ok = true then
  (b1 (BS) fun aa =>
  some aa)
  else
  (b5 (DC walks Af Ae start Ab) fun l l2 n n2 l3 =>
  b5 (Cy walks Af Ae start Ab) fun l4 l5 n3 n4 l6 =>
  b1 (CT l4 l5 n3 n4 l6) fun n5 =>
  b2 (Mm l l2 n n2 l3) fun l7 n6 =>
  b1 (gd (¬ (n6 ≠ n5)) <|
  if n5 ≠ 0 then
  (gd (¬ (0 < (l7.length : Int))) <|
  if n5 = 0 then
  (b1 (Cw l7) fun l8 =>
  b1 (Iu l4 l5 n3 n4 l6) fun l9 =>
  b1 (Cj l8 l9) fun ab =>
  some (!ab))
  else
  (some false))
  else
  (if n5 = 0 then
  (b1 (Cw l7) fun ad =>
  b1 (Iu l4 l5 n3 n4 l6) fun ae =>
  b1 (Cj ad ae) fun ah =>
  some (!ah))
  else
  (some false))) fun k =>
  gd (k = false) <|
  b2 (IY l l2 n n2 l3 AW B7) fun n7 n8 =>
  b2 (if n5 = 0 then
  (b1 (Jv l4 l5 n3 n4 l6 AW B7) fun ai =>
  if ai = true then
  (b1 (GV l4 l5 n3 n4 l6 AW B7) fun n9 =>
  if n9 < 0 then
  (some (6, 0))
  else
  (some (0, n9)))
  else
  (some (1, 0)))
  else
  (some (n5, 0))) fun w k2 =>
  gd (n7 = k2) <|
  gd (n8 = w) <|
  b1 (CO l l2 n n2 l3 walks Af Ae start Ab) fun aj =>
  gd (aj = true) <|
  b1 (BS) fun ak =>
  some ak)
def Hc (walks Af : Bw) (Ae start : Int) (Ab : Ci) (aa : Int) : Option Bool :=
  b5 (Cy walks Af Ae start Ab) fun l l2 n n2 l3 =>
  b1 (CT l l2 n n2 l3) fun n3 =>
  if n3 = 0 then
  (b1 (Cc l l2 n n2 l3) fun l4 =>
  some (decide (aa < (l4.length : Int))))
  else
  (some false)
def IB (l : List (Int × Int)) : Option (List (Int × Int)) :=
  gd (0 ≤ (l.length : Int) ∧ (l.length : Int) ≤ 1048576) <|
  bv (List.replicate ((l.length : Int) : Int).toNat (0, 0) : List (Int × Int)) fun l2 =>
  bv (RC l2 l) fun out =>
  some out
def D8 (x : List Int) (n : Int) : List (Int × Int) → (List (Int × Int)) → Option (List (Int × Int))
  | [], aa =>
  some aa
  | x3 :: ad, aa =>
  b1 (if x3.1 ≠ n then
  (some true)
  else
  (b1 (FM x x3.2) fun ok =>
  some (!ok))) fun k =>
  if k = true then
  (ap aa [(x3.1, x3.2)] fun ab =>
  D8 x n ad ab)
  else
  (D8 x n ad aa)
def E3 (walks Af : Bw) (Ae start : Int) (Ab : Ci) (Ax : Bw) (at_ minute : Int) (ab : List (Int × Int)) (ad : Bw → Bw → Int → Int → Ci → Bw → Int → Int → (List (Int × Int)) → Option (Int)) (s_ : Int) (x : List Int) : Ci → Int → Int → Option Int
  | [], _n, aa =>
  some aa
  | x2 :: ah, n, aa =>
  b1 (b1 (D8 x n ab []) fun rest =>
  b1 (if (rest.length : Int) = (ab.length : Int) then
  (some true)
  else
  (ix Ax at_ fun x4 =>
  ix x4 s_ fun x5 =>
  some (decide (x5 < 0)))) fun k2 =>
  if k2 = true then
  (some aa)
  else
  (ix Ax at_ fun x6 =>
  ix x6 s_ fun x7 =>
  gd (Ca (minute + x7)) <|
  gd (Ca ((minute + x7) + x2.2.1)) <|
  if x2.2.2 < ((minute + x7) + x2.2.1) then
  (some aa)
  else
  (b1 (ad walks Af Ae start Ab Ax s_ ((minute + x7) + x2.2.1) rest) fun n2 =>
  b1 (if 0 ≤ n2 then
  (if aa < 0 then
  (some true)
  else
  (some (decide (n2 < aa))))
  else
  (some false)) fun k3 =>
  if k3 = true then
  (some n2)
  else
  (some aa)))) fun ae =>
  E3 walks Af Ae start Ab Ax at_ minute ab ad s_ x ah (n + 1) ae
def Fj (walks Af : Bw) (Ae start : Int) (Ab : Ci) (Ax : Bw) (at_ minute : Int) (ab : List (Int × Int)) (ad : Bw → Bw → Int → Int → Ci → Bw → Int → Int → (List (Int × Int)) → Option (Int)) : Bw → Int → Int → Option Int
  | [], _s_, aa =>
  some aa
  | x :: ah, s_, aa =>
  b1 (E3 walks Af Ae start Ab Ax at_ minute ab ad s_ x Ab 0 aa) fun ae =>
  Fj walks Af Ae start Ab Ax at_ minute ab ad ah (s_ + 1) ae
def Jj (ab : Bw → Bw → Int → Int → Ci → Bw → Int → Int → (List (Int × Int)) → Option (Int)) (walks Af : Bw) (Ae start : Int) (Ab : Ci) (Ax : Bw) (at_ minute : Int) (aa : List (Int × Int)) : Option Int :=
  if (aa.length : Int) = 0 then
  (some minute)
  else
  (b1 (Fj walks Af Ae start Ab Ax at_ minute aa ab Af 0 (-1)) fun ad =>
  some ad)
def G8 : Nat → Bw → Bw → Int → Int → Ci → Bw → Int → Int → (List (Int × Int)) → Option Int
  | 0, _, _, _, _, _, _, _, _, _ => none
  | fu + 1, walks, Af, Ae, start, Ab, Ax, at_, minute, aa =>
  Jj (G8 fu) walks Af Ae start Ab Ax at_ minute aa
def Db (walks Af : Bw) (Ae start : Int) (Ab : Ci) (AE : List (Int × Int)) : Option Int :=
  b1 (Fo walks Af Ae start Ab) fun l =>
  b1 (G8 FU walks Af Ae start Ab l start 0 AE) fun n =>
  some n
def Ih (d : Option Qw) (BX : Int) : Option (Bool × Int) :=
  b8 d fun ad ae ab ah aa ai aj ak =>
  b1 (DO ad ae ab ah aa ai aj ak) fun y =>
  b3 (Ch ad ae ab ah aa ai aj ak BX y) fun _l _n3 ok =>
  some (ok, 0)
def Fz (d : Option Qw) : List (Int × Int) → Int → Option (Bool × Int)
  | [], aa =>
  Ih d aa
  | x :: ak, aa =>
  b8 d fun Ax ae ad ah ab ai aj BH =>
  b1 (GW Ax ae ad ah ab ai aj BH x.1 x.2) fun n2 =>
  if n2 < 0 then
  (some (false, 1))
  else
  (gd (0 ≤ n2 ∧ n2 < 64) <|
  gd (¬ ((PU (shr aa n2) 1) = 1)) <|
  gd ((0 ≤ (n2 : Int) ∧ (n2 : Int) < 64) ∧ Ca (shl 1 n2)) <|
  Fz d ak (PS aa (shl 1 n2)))
def JI (walks Af : Bw) (Ae start : Int) (Ab : Ci) (AE : List (Int × Int)) : Option (Bool × Int) :=
  b2 (Cp walks Af Ae start Ab) fun d n =>
  if n ≠ 0 then
  (some (false, n))
  else
  (Fz d AE 0)
def Gn (k3 : Int) (aa : Int → Int → Option Int) (w3 : Int) : Option Int :=
  aa (k3 + 1) w3
def DG (k3 : Int) (x2 : Int × Int) (w4 : Int) (aa : Int → Int → Option Int) : List (Int × Int) → Option Int
  | [] =>
  Gn k3 aa w4
  | x3 :: ab =>
  b1 (if w4 = 0 then
  (some (decide (x2.1 = x3.1 ∧ x2.2 = x3.2)))
  else
  (some false)) fun k5 =>
  gd (k5 = false) <|
  DG k3 x2 w4 aa ab
def Ck (AE : List (Int × Int)) (l5 l6 : Bw) (n3 n4 : Int) (l7 : Ci) : List (Int × Int) → Int → Int → Option Int
  | [], _k3, w2 =>
  some w2
  | x2 :: ab, k3, w2 =>
  if w2 ≠ 0 then
  (some w2)
  else
  (b1 (b1 (Jv l5 l6 n3 n4 l7 x2.1 x2.2) fun ad =>
  if ad = true then
  (some 0)
  else
  (some 1)) fun w4 =>
  gd ((0 ≤ (0 : Int) ∧ (0 : Int) ≤ k3) ∧ k3 ≤ AE.length) <|
  bv (sl AE 0 k3) fun aa =>
  DG k3 x2 w4 (Ck AE l5 l6 n3 n4 l7 ab) aa)
def DU (walks Af : Bw) (Ae start : Int) (Ab : Ci) (AE : List (Int × Int)) : Option Bool :=
  b1 (Dd walks Af Ae start Ab) fun ok =>
  gd (ok = false) <|
  b1 (Hc walks Af Ae start Ab 6) fun ad =>
  gd (ad = false) <|
  gd (¬ (8 < (AE.length : Int))) <|
  b5 (DC walks Af Ae start Ab) fun l l2 n n2 l3 =>
  b1 (IB AE) fun l4 =>
  b5 (Cy walks Af Ae start Ab) fun l5 l6 n3 n4 l7 =>
  b1 (CT l5 l6 n3 n4 l7) fun n5 =>
  b3 (JY l l2 n n2 l3) fun l8 n6 n7 =>
  b2 (if n5 = 0 then
  (b1 (Cc l5 l6 n3 n4 l7) fun l9 =>
  b1 (Db l5 l6 n3 n4 l7 l9) fun n8 =>
  if n8 < 0 then
  (some (6, 0))
  else
  (some (n5, n8)))
  else
  (some (n5, 0))) fun v k =>
  b1 (gd (¬ (n7 ≠ v)) <|
  gd (¬ (n6 ≠ k)) <|
  if v ≠ 0 then
  (some (decide (0 < (l8.length : Int))))
  else
  (some false)) fun k2 =>
  gd (k2 = false) <|
  b0 (if v = 0 then
  (b1 (EB l8) fun ae =>
  b2 (Hu l5 l6 n3 n4 l7 ae) fun ah n9 =>
  b1 (EB l8) fun ai =>
  b2 (G5 l5 l6 n3 n4 l7 ai) fun aj _ax =>
  gd (¬ (n9 ≠ 0)) <|
  gd (¬ (0 < (ah.length : Int))) <|
  gd (¬ ((l8.length : Int) = 0)) <|
  gd (0 < (l8.length : Int)) <|
  gd (Ca ((l8.length : Int) - 1)) <|
  ix aj ((l8.length : Int) - 1) fun x =>
  gd (¬ (x ≠ n6)) <|
  some ())
  else
  (some ())) <|
  b2 (JI l l2 n n2 l3 l4) fun ab ak =>
  b1 (Ck AE l5 l6 n3 n4 l7 AE 0 n5) fun w =>
  gd (ak = w) <|
  if w = 0 then
  (b1 (Cw AE) fun al =>
  b1 (Db l5 l6 n3 n4 l7 al) fun ao =>
  gd (ab = (decide (0 ≤ ao))) <|
  b1 (CO l l2 n n2 l3 walks Af Ae start Ab) fun aq =>
  gd (aq = true) <|
  b1 (FH l4 AE) fun ar =>
  gd (ar = true) <|
  b1 (BS) fun au =>
  some au)
  else
  (gd (ab = false) <|
  b1 (CO l l2 n n2 l3 walks Af Ae start Ab) fun av =>
  gd (av = true) <|
  b1 (FH l4 AE) fun aw =>
  gd (aw = true) <|
  b1 (BS) fun aa =>
  some aa)
def EK (x : Int × Int) : List (List (Int × Int)) → (List (List (Int × Int))) → Option (List (List (Int × Int)))
  | [], aa =>
  some aa
  | x2 :: ab, aa =>
  ap [(x.1, x.2)] x2 fun l2 =>
  ap aa [l2] fun l3 =>
  EK x ab l3
def ED (ab : List (Int × Int)) (many : Int) (ad : (List (Int × Int)) → Int → Option ((List (List (Int × Int))))) : List (Int × Int) → Int → (List (List (Int × Int))) → Option (List (List (Int × Int)))
  | [], _i, aa =>
  some aa
  | x :: ai, i, aa =>
  b1 (gd ((0 ≤ (i + 1) ∧ (i + 1) ≤ (ab.length : Int)) ∧ (ab.length : Int) ≤ ab.length) <|
  bv (sl ab (i + 1) (ab.length : Int)) fun ae =>
  gd (Ca (many - 1)) <|
  b1 (ad ae (many - 1)) fun l =>
  EK x l aa) fun ah =>
  ED ab many ad ai (i + 1) ah
def IP (aa : (List (Int × Int)) → Int → Option ((List (List (Int × Int))))) (ab : List (Int × Int)) (many : Int) : Option (List (List (Int × Int))) :=
  if many = 0 then
  (some [[]])
  else
  (b1 (ED ab many aa ab 0 []) fun out =>
  some out)
def Gy : Nat → (List (Int × Int)) → Int → Option (List (List (Int × Int)))
  | 0, _, _ => none
  | fu + 1, aa, many =>
  IP (Gy fu) aa many
def GU (many : Int) (aa : Int → Option ((List (Int × Int)) × Int)) : Option ((List (Int × Int)) × Int) :=
  gd (Ca (many + 1)) <|
  aa (many + 1)
def D5 (walks Af : Bw) (Ae start : Int) (Ab : Ci) (many : Int) (aa : Int → Option ((List (Int × Int)) × Int)) : List (List (Int × Int)) → Option ((List (Int × Int)) × Int)
  | [] =>
  GU many aa
  | x :: ab =>
  b1 (Db walks Af Ae start Ab x) fun n =>
  if n < 0 then
  (some (x, 0))
  else
  (D5 walks Af Ae start Ab many aa ab)
def GR : Option ((List (Int × Int)) × Int) :=
  some ([], 6)
def CB (walks Af : Bw) (Ae start : Int) (Ab : Ci) (l : List (Int × Int)) : Nat → Int → Option ((List (Int × Int)) × Int)
  | 0, _ => none
  | aa + 1, many =>
  if many ≤ (l.length : Int) then
  (b1 (Gy FU l many) fun l2 =>
  D5 walks Af Ae start Ab many (CB walks Af Ae start Ab l aa) l2)
  else
  GR
def Gu (walks Af : Bw) (Ae start : Int) (Ab : Ci) : Option ((List (Int × Int)) × Int) :=
  b1 (Cc walks Af Ae start Ab) fun l =>
  CB walks Af Ae start Ab l FU 0
def JP (walks Af : Bw) (Ae start : Int) (Ab : Ci) : Option ((List (Int × Int)) × Int) :=
  b2 (Ii walks Af Ae start Ab 200) fun l n =>
  some (l, n)
def E0 (minute : Int) : Ci → Ci → Option Ci
  | [], aa =>
  some aa
  | x :: ab, aa =>
  ap aa [(x.1, x.2.1, if minute < x.2.2 then minute else x.2.2)] fun out =>
  E0 minute ab out
def HP (walks Af : Bw) (Ae start : Int) (Ab : Ci) (minute : Int) : Option (Bw × Bw × Int × Int × Ci) :=
  b1 (E0 minute Ab []) fun aa =>
  some (walks, Af, Ae, start, aa)
def Ez (walks Af : Bw) (Ae start : Int) (Ab : Ci) (minute : Int) : Option Bool :=
  b1 (Dd walks Af Ae start Ab) fun ok =>
  gd (ok = false) <|
  b1 (Hc walks Af Ae start Ab 6) fun ad =>
  gd (ad = false) <|
  b5 (DC walks Af Ae start Ab) fun l l2 n n2 l3 =>
  b5 (Cy walks Af Ae start Ab) fun l4 l5 n3 n4 l6 =>
  b1 (CT l4 l5 n3 n4 l6) fun n5 =>
  b3 (if n5 = 0 then
  (b2 (Gu l4 l5 n3 n4 l6) fun l7 n6 =>
  some (l6, n6, l7))
  else
  (some (l6, n5, []))) fun aa v want =>
  b2 (JP l l2 n n2 l3) fun l8 n7 =>
  gd (¬ (n7 ≠ v)) <|
  b1 (Cw l8) fun l9 =>
  b1 (Cj l9 want) fun ae =>
  gd ((!ae) = false) <|
  b1 (b1 (if n5 = 0 then
  (if minute < 0 then
  (some true)
  else
  (some (decide (200 < minute))))
  else
  (some false)) fun k =>
  if k = true then
  (some 3)
  else
  (some n5)) fun w =>
  b2 (if w = 0 then
  (b5 (HP l4 l5 n3 n4 aa minute) fun ah ai n8 n9 aj =>
  b2 (Gu ah ai n8 n9 aj) fun ak al =>
  some (al, ak))
  else
  (some (w, []))) fun w2 ab =>
  b2 (Ii l l2 n n2 l3 minute) fun ao aq =>
  gd (aq = w2) <|
  b1 (Cw ao) fun ar =>
  b1 (Cj ar ab) fun au =>
  gd (au = true) <|
  b1 (CO l l2 n n2 l3 walks Af Ae start Ab) fun av =>
  gd (av = true) <|
  b1 (BS) fun aw =>
  some aw
def Fy : Nat → Int → (List Int) → Int → Option (List Int)
  | 0, _, _, _ => none
  | ad + 1, n2, aa, k =>
  if 0 ≤ k then
  (ix aa k fun _x =>
  bv (aa.set (k : Int).toNat (Int.tmod n2 2)) fun ab =>
  gd ((2 : Int) ≠ 0 ∧ Ca (Int.tdiv n2 2)) <|
  gd (Ca (k - 1)) <|
  Fy ad (Int.tdiv n2 2) ab (k - 1))
  else
  (some aa)
def Iw (_walks _Af : Bw) (_Ae _start : Int) (Ab : Ci) (n : Int) : Option (List Int) :=
  gd (0 ≤ (Ab.length : Int) ∧ (Ab.length : Int) ≤ 1048576) <|
  bv (List.replicate ((Ab.length : Int) : Int).toNat 0 : List Int) fun l =>
  b1 (gd (Ca ((l.length : Int) - 1)) <|
  Fy FU n l ((l.length : Int) - 1)) fun out =>
  some out
def Gx : Nat → Int → Option Int
  | 0, aa =>
  some aa
  | ab + 1, aa =>
  gd ((2 : Int) ≠ 0 ∧ Ca (Int.tdiv aa 2)) <|
  Gx ab (Int.tdiv aa 2)
def GD (Ab : Ci) (n kind : Int) : List (Int × Int) → (List (Int × Int)) → Option (List (Int × Int))
  | [], aa =>
  some aa
  | x :: ae, aa =>
  b1 (b1 (gd (Ca (x.1 + 1)) <|
  gd (Ca (x.1 + 1) ∧ Ca (Ab.length : Int)) <|
  Gx (Int.toNat ((Ab.length : Int) - (x.1 + 1))) n) fun bit =>
  if (Int.tmod bit 2) = kind then
  (ap aa [(x.1, x.2)] fun ab =>
  some ab)
  else
  (some aa)) fun ad =>
  GD Ab n kind ae ad
def Il (walks Af : Bw) (Ae start : Int) (Ab : Ci) (n kind : Int) : Option (List (Int × Int)) :=
  b1 (Cc walks Af Ae start Ab) fun l =>
  b1 (GD Ab n kind l []) fun out =>
  some out
def Ex : List Int → Int → (List Int) → Option (List Int)
  | [], _k, l3 =>
  some l3
  | x :: aa, k, l3 =>
  if x = 1 then
  (ap l3 [k] fun l4 =>
  Ex aa (k + 1) l4)
  else
  (Ex aa (k + 1) l3)
def Fw (walks Af : Bw) (Ae start : Int) (Ab : Ci) : Nat → (List Int) → Int → Option (List Int)
  | 0, _, _ => none
  | ad + 1, aa, n2 =>
  if 0 ≤ n2 then
  (b1 (b1 (Iw walks Af Ae start Ab n2) fun l =>
  b1 (Ex l 0 []) fun l2 =>
  b1 (if (aa.length : Int) < (l2.length : Int) then
  (b1 (Il walks Af Ae start Ab n2 1) fun l5 =>
  b1 (Db walks Af Ae start Ab l5) fun n3 =>
  some (decide (0 ≤ n3)))
  else
  (some false)) fun k2 =>
  if k2 = true then
  (some l2)
  else
  (some aa)) fun ab =>
  gd (Ca (n2 - 1)) <|
  Fw walks Af Ae start Ab ad ab (n2 - 1))
  else
  (some aa)
def JC (walks Af : Bw) (Ae start : Int) (Ab : Ci) : Option (List Int) :=
  b1 (gd ((0 ≤ ((Ab.length : Int) : Int) ∧ ((Ab.length : Int) : Int) < 64) ∧ Ca (shl 1 (Ab.length : Int))) <|
  gd (Ca ((shl 1 (Ab.length : Int)) - 1)) <|
  bv ((shl 1 (Ab.length : Int)) - 1) fun n =>
  Fw walks Af Ae start Ab FU [] n) fun aa =>
  some aa
def H2 : Option Int :=
  some (-1)
def E7 (walks Af : Bw) (Ae start : Int) (Ab : Ci) (AW : Int) : Nat → Int → Option Int
  | 0, _ => none
  | aa + 1, hour =>
  if hour ≤ 200 then
  (b5 (HP walks Af Ae start Ab 200) fun l l2 n n2 l3 =>
  ix l3 AW fun x =>
  bv (l3.set (AW : Int).toNat (x.1, x.2.1, hour)) fun x2 =>
  b1 (Cc l l2 n n2 x2) fun l4 =>
  b1 (Db l l2 n n2 x2 l4) fun n3 =>
  if 0 ≤ n3 then
  (some hour)
  else
  (gd (Ca (hour + 1)) <|
  E7 walks Af Ae start Ab AW aa (hour + 1)))
  else
  H2
def Jb (walks Af : Bw) (Ae start : Int) (Ab : Ci) (AW : Int) : Option Int :=
  E7 walks Af Ae start Ab AW FU 0
def D9 (walks Af : Bw) (Ae start : Int) (Ab : Ci) : Nat → (List Int) → Int → Int → Option ((List Int) × Int)
  | 0, _, _, _ => none
  | ad + 1, ab, aa, n =>
  gd ((0 ≤ ((Ab.length : Int) : Int) ∧ ((Ab.length : Int) : Int) < 64) ∧ Ca (shl 1 (Ab.length : Int))) <|
  if n < (shl 1 (Ab.length : Int)) then
  (b1 (Il walks Af Ae start Ab n 0) fun l =>
  b1 (Db walks Af Ae start Ab l) fun n2 =>
  b1 (Il walks Af Ae start Ab n 1) fun l2 =>
  b1 (Db walks Af Ae start Ab l2) fun n3 =>
  b1 (if n2 < 0 then
  (some true)
  else
  (some (decide (n3 < 0)))) fun k =>
  if k = true then
  (gd (Ca (n + 1)) <|
  D9 walks Af Ae start Ab ad ab aa (n + 1))
  else
  (b1 (if aa < 0 then
  (some true)
  else
  (some (decide ((if n3 > n2 then n3 else n2) < aa)))) fun k2 =>
  if k2 = true then
  (b1 (Iw walks Af Ae start Ab n) fun l3 =>
  gd (Ca (n + 1)) <|
  D9 walks Af Ae start Ab ad l3 (if n3 > n2 then n3 else n2) (n + 1))
  else
  (gd (Ca (n + 1)) <|
  D9 walks Af Ae start Ab ad ab aa (n + 1))))
  else
  (some (ab, aa))
def Km (walks Af : Bw) (Ae start : Int) (Ab : Ci) : Option ((List Int) × Int × Int) :=
  b2 (D9 walks Af Ae start Ab FU [] (-1) 0) fun ab aa =>
  if aa < 0 then
  (some ([], 0, 6))
  else
  (some (ab, aa, 0))
def FY (l : List Int) (walks Af : Bw) (Ae start : Int) (Ab : Ci) (Ax : List Int) (AE : List (Int × Int)) (BH : List Int) (ad ae : Bw) (ab ah : Int) (aa : Ci) (aj : (List Int) → Int → Bw → Bw → Int → Int → Ci → (List Int) → (List (Int × Int)) → (List Int) → (List Int) → Bw → Bw → Int → Int → Ci → Option ((List Int))) : Nat → Int → (List Int) → Option (List Int)
  | 0, _n3, ai =>
  some ai
  | al + 1, n3, ai =>
  b1 (FB l) fun l3 =>
  ap l3 [n3] fun l4 =>
  b1 (aj l4 (n3 + 1) walks Af Ae start Ab Ax AE BH ai ad ae ab ah aa) fun ak =>
  FY l walks Af Ae start Ab Ax AE BH ad ae ab ah aa aj al (n3 + 1) ak
def Kp (ai : (List Int) → Int → Bw → Bw → Int → Int → Ci → (List Int) → (List (Int × Int)) → (List Int) → (List Int) → Bw → Bw → Int → Int → Ci → Option ((List Int))) (l : List Int) (from_ : Int) (walks Af : Bw) (Ae start : Int) (Ab : Ci) (Ax : List Int) (AE : List (Int × Int)) (BH out : List Int) (ad ae : Bw) (ab ah : Int) (aa : Ci) : Option (List Int) :=
  b1 (Hi walks Af Ae start Ab Ax AE BH l) fun n =>
  b1 (DO walks Af Ae start Ab Ax AE BH) fun y =>
  b3 (Ch walks Af Ae start Ab Ax AE BH n y) fun _l2 _n2 ok =>
  if (!ok) = true then
  (some out)
  else
  (b1 (if (out.length : Int) < (l.length : Int) then
  (some l)
  else
  (some out)) fun aj =>
  gd (Ca from_ ∧ Ca (aa.length : Int)) <|
  FY l walks Af Ae start Ab Ax AE BH ad ae ab ah aa ai (Int.toNat ((aa.length : Int) - from_)) from_ aj)
def Iv : Nat → (List Int) → Int → Bw → Bw → Int → Int → Ci → (List Int) → (List (Int × Int)) → (List Int) → (List Int) → Bw → Bw → Int → Int → Ci → Option (List Int)
  | 0, _, _, _, _, _, _, _, _, _, _, _, _, _, _, _, _ => none
  | fu + 1, l, from_, walks, Af, Ae, start, Ab, Ax, AE, BH, out, ad, ae, ab, ah, aa =>
  Kp (Iv fu) l from_ walks Af Ae start Ab Ax AE BH out ad ae ab ah aa
def Mg (walks Af : Bw) (Ae start : Int) (Ab : Ci) : Option ((List Int) × Int) :=
  b2 (Cp walks Af Ae start Ab) fun d n =>
  if n ≠ 0 then
  (some ([], n))
  else
  (b8 d fun Ax ad ab ae aa ah AE BH =>
  b1 (Iv FU [] 0 Ax ad ab ae aa ah AE BH [] walks Af Ae start Ab) fun out =>
  some (out, 0))
def DR (walks Af : Bw) (Ae start : Int) (Ab : Ci) (AW : Int) : Option Bool :=
  b1 (b1 (Dd walks Af Ae start Ab) fun ok =>
  if ok = true then
  (some true)
  else
  (b1 (Hc walks Af Ae start Ab 5) fun ad =>
  some ad)) fun k =>
  if k = true then
  (b1 (BS) fun ae =>
  some ae)
  else
  (b5 (DC walks Af Ae start Ab) fun l l2 n n2 l3 =>
  b5 (Cy walks Af Ae start Ab) fun l4 l5 n3 n4 l6 =>
  b1 (CT l4 l5 n3 n4 l6) fun n5 =>
  b6 (if n5 = 0 then
  (b1 (JC l4 l5 n3 n4 l6) fun l7 =>
  b2 (b1 (if 0 ≤ AW then
  (some (decide (AW < (Ab.length : Int))))
  else
  (some false)) fun k2 =>
  if k2 = true then
  (b1 (Jb l4 l5 n3 n4 l6 AW) fun n6 =>
  if n6 < 0 then
  (some (6, 0))
  else
  (some (0, n6)))
  else
  (some (1, 0))) fun v2 aa =>
  b3 (Km l4 l5 n3 n4 l6) fun l8 n7 n8 =>
  some (v2, n8, aa, n7, l7, l8))
  else
  (some (n5, n5, 0, 0, [], []))) fun v u hour late ab ah =>
  b2 (Mg l l2 n n2 l3) fun l9 n9 =>
  b2 (Kf l l2 n n2 l3 AW) fun ai aj =>
  b3 (LL l l2 n n2 l3) fun ak al ao =>
  gd (n9 = n5) <|
  gd (aj = v) <|
  gd (ao = u) <|
  gd (ai = hour) <|
  gd (al = late) <|
  b1 (D7 l9 ab) fun aq =>
  gd (aq = true) <|
  b1 (D7 ak ah) fun ar =>
  gd (ar = true) <|
  b1 (CO l l2 n n2 l3 walks Af Ae start Ab) fun au =>
  gd (au = true) <|
  b1 (BS) fun av =>
  some av)
def JK (walks Af : Bw) (Ae start : Int) (Ab : Ci) (n : Int) : Option Bool :=
  b3 (JY walks Af Ae start Ab) fun l n2 _n3 =>
  b1 (b1 (if 0 < (l.length : Int) then
  (some (decide ((Int.tmod n 3) = 0)))
  else
  (some false)) fun k =>
  if k = true then
  (gd ((l.length : Int) ≠ 0) <|
  ix l (Int.tmod n (l.length : Int)) fun x =>
  bv (l.set (Int.tmod n (l.length : Int) : Int).toNat (Int.tmod n 4, x.2)) fun l3 =>
  some l3)
  else
  (some l)) fun l2 =>
  b2 (J7 walks Af Ae start Ab) fun l4 _n4 =>
  b1 (b1 (if 1 < (l4.length : Int) then
  (some (decide ((Int.tmod n 2) = 0)))
  else
  (some false)) fun k2 =>
  if k2 = true then
  (gd ((l4.length : Int) ≠ 0) <|
  gd ((0 ≤ (Int.tmod n (l4.length : Int)) ∧ (Int.tmod n (l4.length : Int)) ≤ (l4.length : Int)) ∧ (l4.length : Int) ≤ l4.length) <|
  bv (sl l4 (Int.tmod n (l4.length : Int)) (l4.length : Int)) fun p2 =>
  some p2)
  else
  (some l4)) fun p =>
  b1 (B8 walks Af Ae start Ab (Int.tmod n 3) n) fun ok =>
  gd (ok = true) <|
  gd ((3 : Int) ≠ 0 ∧ Ca (Int.tdiv n 3)) <|
  b1 (Eg walks Af Ae start Ab (Int.tmod n 3) (Int.tmod (Int.tdiv n 3) 3)) fun aa =>
  gd (aa = true) <|
  b1 (EC walks Af Ae start Ab l2) fun ab =>
  gd (ab = true) <|
  b1 (Ep walks Af Ae start Ab (Int.tmod n 2) (Int.tmod n 3)) fun ad =>
  gd (ad = true) <|
  b1 (DU walks Af Ae start Ab p) fun ae =>
  gd (ae = true) <|
  gd (Ca (n2 - (Int.tmod n 4))) <|
  b1 (Ez walks Af Ae start Ab (if n2 - (Int.tmod n 4) > 0 then n2 - (Int.tmod n 4) else 0)) fun ah =>
  gd (ah = true) <|
  b1 (DR walks Af Ae start Ab (Int.tmod n 3)) fun ai =>
  some ai
def Bd (k2 : Int) (ar : Int → Option Unit) (al ad ae aa ab ah ai ao au aq aj ak AW hour minute to : Int) : Option Unit :=
  b1 (b1 (B8 [[0, al, -1], [2, ad, 2], [-1, 2, 0]] [[0], [1], [1, ae]] aa ab [([0, ah], ai, 12), ([1], 1, ao)] AW hour) fun ok =>
  gd ((!ok) = false) <|
  b1 (Eg [[0, al, -1], [2, ad, 2], [-1, 2, 0]] [[0], [1], [1, ae]] aa ab [([0, ah], ai, 12), ([1], 1, ao)] 0 to) fun av =>
  gd ((!av) = false) <|
  b1 (EC [[0, al, -1], [2, ad, 2], [-1, 2, 0]] [[0], [1], [1, ae]] aa ab [([0, ah], ai, 12), ([1], 1, ao)] [(0, 0), (au, 0), (2, aq)]) fun aw =>
  gd ((!aw) = false) <|
  b1 (Ep [[0, al, -1], [2, ad, 2], [-1, 2, 0]] [[0], [1], [1, ae]] aa ab [([0, ah], ai, 12), ([1], 1, ao)] aj ak) fun ax =>
  gd ((!ax) = false) <|
  b1 (DU [[0, al, -1], [2, ad, 2], [-1, 2, 0]] [[0], [1], [1, ae]] aa ab [([0, ah], ai, 12), ([1], 1, ao)] [(1, 1), (aj, ak)]) fun ay =>
  gd ((!ay) = false) <|
  b1 (Ez [[0, al, -1], [2, ad, 2], [-1, 2, 0]] [[0], [1], [1, ae]] aa ab [([0, ah], ai, 12), ([1], 1, ao)] minute) fun az =>
  gd ((!az) = false) <|
  if k2 < 13 then
  (b1 (DR [[0, al, -1], [2, ad, 2], [-1, 2, 0]] [[0], [1], [1, ae]] aa ab [([0, ah], ai, 12), ([1], 1, ao)] AW) fun ba =>
  some (!ba))
  else
  (some false)) fun k3 =>
  gd (k3 = false) <|
  ar (k2 + 1)
def A7 (x : Int) : Nat → Int → Option Unit
  | 0, _k2 =>
  some ()
  | aa + 1, k2 =>
  b5 (DV) fun _y _y2 n n2 _y3 =>
  if k2 = 0 then
  (Bd k2 (A7 x aa) x 0 2 n n2 2 3 20 2 1 0 2 1 7 9 2)
  else
  (if k2 = 1 then
  (Bd k2 (A7 x aa) 2 x 2 n n2 2 3 20 2 1 0 2 1 7 9 2)
  else
  (if k2 = 2 then
  (Bd k2 (A7 x aa) 2 0 x n n2 2 3 20 2 1 0 2 1 7 9 2)
  else
  (if k2 = 3 then
  (Bd k2 (A7 x aa) 2 0 2 x n2 2 3 20 2 1 0 2 1 7 9 2)
  else
  (if k2 = 4 then
  (Bd k2 (A7 x aa) 2 0 2 n x 2 3 20 2 1 0 2 1 7 9 2)
  else
  (if k2 = 5 then
  (Bd k2 (A7 x aa) 2 0 2 n n2 x 3 20 2 1 0 2 1 7 9 2)
  else
  (if k2 = 6 then
  (Bd k2 (A7 x aa) 2 0 2 n n2 2 x 20 2 1 0 2 1 7 9 2)
  else
  (if k2 = 7 then
  (Bd k2 (A7 x aa) 2 0 2 n n2 2 3 x 2 1 0 2 1 7 9 2)
  else
  (if k2 = 8 then
  (Bd k2 (A7 x aa) 2 0 2 n n2 2 3 20 x 1 0 2 1 7 9 2)
  else
  (if k2 = 9 then
  (Bd k2 (A7 x aa) 2 0 2 n n2 2 3 20 2 x 0 2 1 7 9 2)
  else
  (if k2 = 10 then
  (Bd k2 (A7 x aa) 2 0 2 n n2 2 3 20 2 1 x 2 1 7 9 2)
  else
  (if k2 = 11 then
  (Bd k2 (A7 x aa) 2 0 2 n n2 2 3 20 2 1 0 x 1 7 9 2)
  else
  (if k2 = 12 then
  (Bd k2 (A7 x aa) 2 0 2 n n2 2 3 20 2 1 0 2 x 7 9 2)
  else
  (if k2 = 13 then
  (Bd k2 (A7 x aa) 2 0 2 n n2 2 3 20 2 1 0 2 1 x 9 2)
  else
  (if k2 = 14 then
  (Bd k2 (A7 x aa) 2 0 2 n n2 2 3 20 2 1 0 2 1 7 x 2)
  else
  (gd (k2 = 15) <|
  Bd k2 (A7 x aa) 2 0 2 n n2 2 3 20 2 1 0 2 1 7 9 x)))))))))))))))
def Bc : Nat → Int → Option Unit
  | 0, _k =>
  some ()
  | aa + 1, k =>
  b0 (ix ([-2, -1, 0, 1, 2, 3, 5, 6, 9, 10, 12, 20, 21, 200, 201, 9223372036854775807, -9223372036854775808] : List Int) k fun x =>
  gd (Ca 0 ∧ Ca 16) <|
  A7 x (Int.toNat (16 - 0)) 0) <|
  Bc aa (k + 1)
def Dq (k4 k5 : Int) : Nat → Int → Bw → Option Bw
  | 0, _k6, aa =>
  some aa
  | ab + 1, k6, aa =>
  gd (Ca (3 * k5)) <|
  gd (Ca (k4 + (3 * k5))) <|
  gd (Ca ((k4 + (3 * k5)) + k6)) <|
  gd (Ca (1 + (Int.tmod ((k4 + (3 * k5)) + k6) 4))) <|
  bv (1 + (Int.tmod ((k4 + (3 * k5)) + k6) 4)) fun w =>
  b1 (if k5 = k6 then
  (some 0)
  else
  (gd (Ca (k4 + k5)) <|
  gd (Ca (2 * k6)) <|
  gd (Ca ((k4 + k5) + (2 * k6))) <|
  if (Int.tmod ((k4 + k5) + (2 * k6)) 5) = 0 then
  (some (-1))
  else
  (some w))) fun w2 =>
  ix aa k5 fun x2 =>
  ap x2 [w2] fun l =>
  bv (aa.set (k5 : Int).toNat l) fun l2 =>
  Dq k4 k5 ab (k6 + 1) l2
def Dy (k4 : Int) : Nat → Int → Bw → Bw → Option (Bw × Bw)
  | 0, _k5, aa, ab =>
  some (aa, ab)
  | ai + 1, k5, aa, ab =>
  b2 (ap aa [[]] fun b =>
  b1 (gd (Ca (2 + (Int.tmod k4 2))) <|
  gd (Ca 0 ∧ Ca (2 + (Int.tmod k4 2))) <|
  Dq k4 k5 (Int.toNat ((2 + (Int.tmod k4 2)) - 0)) 0 b) fun ad =>
  gd ((2 : Int) ≠ 0 ∧ Ca (Int.tdiv k4 2)) <|
  gd (Ca ((Int.tdiv k4 2) + k5)) <|
  ix ([[0], [1, 2], [2], [0, 1], []] : Bw) (Int.tmod ((Int.tdiv k4 2) + k5) 5) fun x3 =>
  ap ab [x3] fun l3 =>
  some (ad, l3)) fun ae ah =>
  Dy k4 ai (k5 + 1) ae ah
def Dx (k4 : Int) : Nat → Int → Ci → Option Ci
  | 0, _k7, aa =>
  some aa
  | ab + 1, k7, aa =>
  gd ((3 : Int) ≠ 0 ∧ Ca (Int.tdiv k4 3)) <|
  gd (Ca ((Int.tdiv k4 3) + k7)) <|
  gd (Ca (k4 + k7)) <|
  gd (Ca (1 + (Int.tmod (k4 + k7) 3))) <|
  gd ((4 : Int) ≠ 0 ∧ Ca (Int.tdiv k4 4)) <|
  gd (Ca (2 + (Int.tmod (Int.tdiv k4 4) 14))) <|
  ix ([[0], [2, 0], [1], [1, 2]] : Bw) (Int.tmod ((Int.tdiv k4 3) + k7) 4) fun x4 =>
  ap aa [(x4, 1 + (Int.tmod (k4 + k7) 3), 2 + (Int.tmod (Int.tdiv k4 4) 14))] fun l4 =>
  Dx k4 ab (k7 + 1) l4
def AS : Nat → Int → Option Unit
  | 0, _k4 =>
  some ()
  | ae + 1, k4 =>
  b0 (b2 (gd (Ca (2 + (Int.tmod k4 2))) <|
  gd (Ca 0 ∧ Ca (2 + (Int.tmod k4 2))) <|
  Dy k4 (Int.toNat ((2 + (Int.tmod k4 2)) - 0)) 0 [] []) fun ab ad =>
  b1 (gd (Ca (1 + (Int.tmod k4 2))) <|
  gd (Ca 0 ∧ Ca (1 + (Int.tmod k4 2))) <|
  Dx k4 (Int.toNat ((1 + (Int.tmod k4 2)) - 0)) 0 []) fun aa =>
  b1 (JK ab ad 3 (Int.tmod k4 2) aa k4) fun ah =>
  gd ((!ah) = false) <|
  some ()) <|
  AS ae (k4 + 1)
def C7 (k9 : Int) (ad : List Int) (ah : Bw) : Nat → Int → Bw → Option (Bw × Bw × (List Int))
  | 0, _ab, aa =>
  some (aa, ah, ad)
  | ae + 1, ab, aa =>
  ix aa k9 fun x6 =>
  gd (Ca (k9 - ab)) <|
  gd (Ca (ab - k9)) <|
  ap x6 [if (if ab - k9 > k9 - ab then ab - k9 else k9 - ab) < 1 then (if ab - k9 > k9 - ab then ab - k9 else k9 - ab) else 1] fun l7 =>
  bv (aa.set (k9 : Int).toNat l7) fun l8 =>
  C7 k9 ad ah ae (ab + 1) l8
def Du (k8 : Int) : Nat → Int → Bw → Bw → (List Int) → Option (Bw × Bw × (List Int))
  | 0, _k9, ab, aa, ad =>
  some (ab, aa, ad)
  | ak + 1, k9, ab, aa, ad =>
  b3 (ap ad [k9] fun ai =>
  ix aa k9 fun _x5 =>
  bv (aa.set (k9 : Int).toNat [k9]) fun al =>
  gd (Ca 0 ∧ Ca k8) <|
  C7 k9 ai al (Int.toNat (k8 - 0)) 0 ab) fun ae ah aj =>
  Du k8 ak (k9 + 1) ae ah aj
def C6 (ad : List Int) : Nat → Int → Ci → (List Int) → Option (Ci × (List Int))
  | 0, _ae, aa, ab =>
  some (aa, ab)
  | ai + 1, ae, aa, _ab =>
  ap aa [([Int.tmod ae 3], 1, 30)] fun c =>
  gd ((0 ≤ (0 : Int) ∧ (0 : Int) ≤ (ae + 1)) ∧ (ae + 1) ≤ ad.length) <|
  bv (sl ad 0 (ae + 1)) fun ah =>
  C6 ad ai (ae + 1) c ah
def AY : Nat → Int → Option Unit
  | 0, _k8 =>
  some ()
  | aq + 1, k8 =>
  b0 (gd (0 ≤ k8 ∧ k8 ≤ 1048576) <|
  gd (0 ≤ k8 ∧ k8 ≤ 1048576) <|
  bv (List.replicate (k8 : Int).toNat [] : Bw) fun l5 =>
  bv (List.replicate (Int.toNat k8) [] : Bw) fun l6 =>
  b3 (gd (Ca 0 ∧ Ca k8) <|
  Du k8 (Int.toNat (k8 - 0)) 0 l6 l5 []) fun ab ad ae =>
  b5 (DV) fun _y4 _y5 n3 n4 _y6 =>
  b5 (DV) fun _y7 _y8 n5 n6 _y9 =>
  b2 (gd (Ca 0 ∧ Ca k8) <|
  C6 ae (Int.toNat (k8 - 0)) 0 [] [1]) fun aa ar =>
  b1 (B8 ab ad k8 0 [] 0 0) fun au =>
  gd ((!au) = false) <|
  gd (Ca (k8 - 1)) <|
  b1 (Eg ab ad k8 0 [] 0 (k8 - 1)) fun ah =>
  gd ((!ah) = false) <|
  b1 (B8 [[0, 2, -1], [2, 0, 2], [-1, 2, 0]] [[0], [1], [1, 2]] n3 n4 aa (k8 - 1) 9) fun ai =>
  gd ((!ai) = false) <|
  b1 (Ep [[0, 2, -1], [2, 0, 2], [-1, 2, 0]] [[0], [1], [1, 2]] n3 n4 aa (k8 - 1) 0) fun aj =>
  gd ((!aj) = false) <|
  b1 (DR [[0, 2, -1], [2, 0, 2], [-1, 2, 0]] [[0], [1], [1, 2]] n3 n4 aa 0) fun ak =>
  gd ((!ak) = false) <|
  b1 (B8 [[0, 2, -1], [2, 0, 2], [-1, 2, 0]] [[0], [1], [1, 2]] n5 n6 [([0, 2], 3, 12), (ar, 1, 20)] 0 1) fun al =>
  gd ((!al) = false) <|
  b5 (DV) fun _ay _az n7 n8 _ba =>
  gd (Ca (3 * k8)) <|
  gd (0 ≤ (3 * k8) ∧ (3 * k8) ≤ 1048576) <|
  b1 (EC [[0, 2, -1], [2, 0, 2], [-1, 2, 0]] [[0], [1], [1, 2]] n7 n8 [([0, 2], 3, 12), ([1], 1, 20)] (List.replicate (Int.toNat (3 * k8)) (0, 0))) fun ao =>
  bv (List.replicate (Int.toNat (3 * k8)) (0, 0) : List (Int × Int)) fun _l9 =>
  gd ((!ao) = false) <|
  b1 (b1 (Gj ab ad k8 0 []) fun n9 =>
  if 0 < k8 then
  (gd (¬ ((decide (n9 = 0)) ≠ (decide (k8 < 6)))) <|
  b1 (Gj [[0, 2, -1], [2, 0, 2], [-1, 2, 0]] [[0], [1], [1, 2]] n3 n4 aa) fun av =>
  some (decide ((decide (av = 0)) ≠ (decide (k8 < 4)))))
  else
  (gd (¬ ((decide (n9 = 0)) ≠ false)) <|
  b1 (Gj [[0, 2, -1], [2, 0, 2], [-1, 2, 0]] [[0], [1], [1, 2]] n3 n4 aa) fun aw =>
  some (decide ((decide (aw = 0)) ≠ (decide (k8 < 4)))))) fun ax =>
  gd (ax = false) <|
  some ()) <|
  AY aq (k8 + 1)
def Eh : Option Bool :=
  b0 (gd (Ca 0 ∧ Ca 17) <|
  Bc (Int.toNat (17 - 0)) 0) <|
  b0 (gd (Ca 0 ∧ Ca 60) <|
  AS (Int.toNat (60 - 0)) 0) <|
  b0 (gd (Ca 0 ∧ Ca 8) <|
  AY (Int.toNat (8 - 0)) 0) <|
  b1 (B8 [] [] 0 0 [] 0 0) fun aa =>
  gd (aa = true) <|
  b1 (DU [] [] 0 0 [] []) fun ab =>
  gd (ab = true) <|
  b1 (BS) fun ad =>
  some ad
end Go.Proofs.YtbeeigejcihadaaGreat
