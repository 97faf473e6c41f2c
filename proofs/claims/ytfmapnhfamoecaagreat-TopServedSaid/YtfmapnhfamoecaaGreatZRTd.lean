/- Plain functions that mirror the code, printed by a program of mine. -/
import Derived.Test.YtfmapnhfamoecaaGreatZRPl
namespace Go.Proofs.YtfmapnhfamoecaaGreat
open Go.PL
abbrev El := List (List Int)
abbrev NH := List (Int × Int × Int)
abbrev NC := List (List (List Int))
abbrev JB := List ((List Int) × Int × Int)
def Uy : List Int := [0, 1, 2, 2, 3, 3, 3, 3, 4, 4, 4, 4, 4, 4, 4, 4, 5, 5, 5, 5, 5, 5, 5, 5, 5, 5, 5, 5, 5, 5, 5, 5, 6, 6, 6, 6, 6, 6, 6, 6, 6, 6, 6, 6, 6, 6, 6, 6, 6, 6, 6, 6, 6, 6, 6, 6, 6, 6, 6, 6, 6, 6, 6, 6, 7, 7, 7, 7, 7, 7, 7, 7, 7, 7, 7, 7, 7, 7, 7, 7, 7, 7, 7, 7, 7, 7, 7, 7, 7, 7, 7, 7, 7, 7, 7, 7, 7, 7, 7, 7, 7, 7, 7, 7, 7, 7, 7, 7, 7, 7, 7, 7, 7, 7, 7, 7, 7, 7, 7, 7, 7, 7, 7, 7, 7, 7, 7, 7, 8, 8, 8, 8, 8, 8, 8, 8, 8, 8, 8, 8, 8, 8, 8, 8, 8, 8, 8, 8, 8, 8, 8, 8, 8, 8, 8, 8, 8, 8, 8, 8, 8, 8, 8, 8, 8, 8, 8, 8, 8, 8, 8, 8, 8, 8, 8, 8, 8, 8, 8, 8, 8, 8, 8, 8, 8, 8, 8, 8, 8, 8, 8, 8, 8, 8, 8, 8, 8, 8, 8, 8, 8, 8, 8, 8, 8, 8, 8, 8, 8, 8, 8, 8, 8, 8, 8, 8, 8, 8, 8, 8, 8, 8, 8, 8, 8, 8, 8, 8, 8, 8, 8, 8, 8, 8, 8, 8, 8, 8, 8, 8, 8, 8, 8, 8, 8, 8, 8, 8, 8, 8, 8, 8, 8, 8, 8, 8]
def JE (metal : List Int) : Option ((List Int) × Int × Int) :=
  some (metal, 0, 0)
def Ed (metal : List Int) (at_ G2 : Int) : Option (Int × Int × Int) :=
  b2 (if at_ = (metal.length : Int) then
  (some (0, (G2 + 1) % 4294967296))
  else
  (some (at_, G2))) fun ab aa =>
  bv ((30011 * aa) % 4294967296) fun n =>
  b2 (if 0 < (metal.length : Int) then
  (ix metal ab fun x =>
  bv ((n + ((263 * (x % 4294967296)) % 4294967296)) % 4294967296) fun n3 =>
  gd (Dh (ab + 1)) <|
  some (n3, ab + 1))
  else
  (some (n, ab))) fun n2 ad =>
  gd (Dh (M8 32 (Ph 32 n2 (shr n2 7)) 65535)) <|
  some (M8 32 (Ph 32 n2 (shr n2 7)) 65535, ad, aa)
def Cs (metal : List Int) (at_ G2 n : Int) : Option (Int × Int × Int) :=
  b3 (Ed metal at_ G2) fun n2 ab aa =>
  gd (Dh (n + 1)) <|
  gd ((if n + 1 > 1 then n + 1 else 1) ≠ 0) <|
  some (Int.tmod n2 (if n + 1 > 1 then n + 1 else 1), ab, aa)
def CQ (metal : List Int) (at_ G2 lo hi : Int) : Option (Int × Int × Int) :=
  gd (Dh (hi - lo)) <|
  b3 (Cs metal at_ G2 (hi - lo)) fun n ab aa =>
  gd (Dh (lo + n)) <|
  some (lo + n, ab, aa)
def Ec (metal : List Int) : Nat → Int → Int → (List Int) → Int → Option (Int × Int × (List Int))
  | 0, ae, ad, aa, _ab =>
  some (ae, ad, aa)
  | aj + 1, ae, ad, aa, ab =>
  b3 (Cs metal ae ad 5) fun n3 ai ah =>
  ix [0, 0, 0, 1, 1, 2] n3 fun x =>
  b2 (if x = 1 then
  (gd (Dh (ab - 1)) <|
  if (ab - 1) < 0 then
  (some (ab - 1, 0))
  else
  (some (ab - 1, x)))
  else
  (some (ab, x))) fun af p =>
  ap aa [p] fun t =>
  Ec metal aj ai ah t af
def Ho (metal : List Int) (at_ G2 plots : Int) : Option (Int × (List Int) × Int × Int) :=
  b3 (CQ metal at_ G2 1 6) fun n ah ad =>
  gd ((n : Int) ≠ 0 ∧ Dh (Int.tdiv plots n)) <|
  b3 (CQ metal ah ad 1 (if Int.tdiv plots n > 1 then Int.tdiv plots n else 1)) fun n2 ai ae =>
  b3 (gd (Dh (n2 * n)) <|
  gd (Dh 0 ∧ Dh (n2 * n)) <|
  Ec metal (Int.toNat ((n2 * n) - 0)) ai ae [] 10) fun aj ab aa =>
  gd (Dh ((aa.length : Int) - 1)) <|
  b3 (Cs metal aj ab ((aa.length : Int) - 1)) fun n4 ak af =>
  ix aa n4 fun _x2 =>
  bv (aa.set (n4 : Int).toNat 0) fun l =>
  some (n, l, ak, af)
def GS (metal : List Int) (at_ G2 : Int) : Option (Int × Int × Int × Int) :=
  b3 (Cs metal at_ G2 4) fun n ad aa =>
  b3 (CQ metal ad aa 1 16) fun n2 ae ab =>
  some (n, n2, ae, ab)
def Gp : Option Int :=
  some (-1)
def B6 (v : Int) : List Int → Int → Option Int
  | [], _k =>
  Gp
  | x :: aa, k =>
  if v = x then
  (some k)
  else
  (B6 v aa (k + 1))
def EE (s_ : List Int) (v : Int) : Option Int :=
  B6 v s_ 0
def Bv (s_ : List Int) (v : Int) : Option Bool :=
  b1 (EE s_ v) fun n =>
  some (decide (0 ≤ n))
def Gr (n lo hi : Int) : Option Bool :=
  if lo ≤ n then
  (some (decide (n ≤ hi)))
  else
  (some false)
def EY : Option Int :=
  some (-1)
def Ch (f : (List Int) → Option Bool) : El → Int → Option Int
  | [], _k =>
  EY
  | x :: aa, k =>
  b1 (f x) fun ok =>
  if ok = true then
  (some k)
  else
  (Ch f aa (k + 1))
def Eu (s_ : El) (f : (List Int) → Option Bool) : Option Int :=
  Ch f s_ 0
def Eb (s_ : El) (f : (List Int) → Option Bool) : Option Bool :=
  b1 (Eu s_ f) fun n =>
  some (decide (0 ≤ n))
def EJ (x : List Int) (so : (List Int) → Option Bool) : Option Bool :=
  b1 (so x) fun ok =>
  some (!ok)
def GR (l : El) (so : (List Int) → Option Bool) : Option Bool :=
  b1 (Eb l (fun aa : (List Int) => EJ aa so)) fun ok =>
  some (!ok)
def EG (l : List Int) (n : Int) : Option Bool :=
  some (decide ((l.length : Int) = n))
def Fm (walks Ak : El) (Ae _start : Int) (Ac : JB) : Option Bool :=
  b1 (Gr (Ak.length : Int) 1 5) fun ok =>
  if ok = true then
  (b1 (Gr Ae 1 5) fun aa =>
  if aa = true then
  (if (Ac.length : Int) ≤ 3 then
  (if (walks.length : Int) = (Ak.length : Int) then
  (b1 (GR walks (fun ab : (List Int) => EG ab (Ak.length : Int))) fun ad =>
  some ad)
  else
  (some false))
  else
  (some false))
  else
  (some false))
  else
  (some false)
def Gs (_walks Ak : El) (_Ae _start : Int) (_Ac : JB) (s_ : Int) : Option Bool :=
  gd (Dh ((Ak.length : Int) - 1)) <|
  b1 (Gr s_ 0 ((Ak.length : Int) - 1)) fun ok =>
  some ok
def GD (k : Int) (rec2 : Int → Option Bool) : Option Bool :=
  rec2 (k + 1)
def C5 (k : Int) (rec2 : Int → Option Bool) : List Int → Int → Option Bool
  | [], _k2 =>
  GD k rec2
  | x2 :: aa, k2 =>
  b1 (if k = k2 then
  (if x2 ≠ 0 then
  (some true)
  else
  (if k ≠ k2 then
  (if x2 ≠ (-1) then
  (b1 (Gr x2 1 20) fun ok =>
  some (!ok))
  else
  (some false))
  else
  (some false)))
  else
  (if k ≠ k2 then
  (if x2 ≠ (-1) then
  (b1 (Gr x2 1 20) fun ab =>
  some (!ab))
  else
  (some false))
  else
  (some false))) fun k3 =>
  if k3 = true then
  (some false)
  else
  (C5 k rec2 aa (k2 + 1))
def GB : Option Bool :=
  some true
def BY : El → Int → Option Bool
  | [], _k =>
  GB
  | x :: aa, k =>
  C5 k (BY aa) x 0
def Gf (walks _Ak : El) (_Ae _start : Int) (_Ac : JB) : Option Bool :=
  BY walks 0
def He : Option Int :=
  some 0
def Dw (Ae : Int) (l : List Int) : List Int → Int → Option Int
  | [], _k =>
  He
  | x :: aa, k =>
  gd (Dh (Ae - 1)) <|
  b1 (Gr x 0 (Ae - 1)) fun ok =>
  if (!ok) = true then
  (some 1)
  else
  (gd ((0 ≤ (0 : Int) ∧ (0 : Int) ≤ k) ∧ k ≤ l.length) <|
  bv (sl l 0 k) fun l2 =>
  b1 (Bv l2 x) fun ab =>
  if ab = true then
  (some 5)
  else
  (Dw Ae l aa (k + 1)))
def FC (_walks _Ak : El) (Ae _start : Int) (_Ac : JB) (l : List Int) : Option Int :=
  Dw Ae l l 0
def Gk (walks Ak : El) (Ae start : Int) (Ac : JB) (quarter : List Int) (words hour : Int) : Option Int :=
  if (quarter.length : Int) = 0 then
  (some 6)
  else
  (b1 (FC walks Ak Ae start Ac quarter) fun n =>
  if n ≠ 0 then
  (some n)
  else
  (b1 (b1 (Gr words 1 5) fun ok =>
  if (!ok) = true then
  (some true)
  else
  (b1 (Gr hour 0 200) fun aa =>
  some (!aa))) fun k =>
  if k = true then
  (some 3)
  else
  (some 0)))
def IF (Bs : Int) : Option Int :=
  if 9 < Bs then
  (some 2)
  else
  (some 0)
def EB (walks Ak : El) (Ae start : Int) (Ac : JB) : JB → Int → Option Int
  | [], aa =>
  IF aa
  | x2 :: ab, aa =>
  b1 (Gk walks Ak Ae start Ac x2.1 x2.2.1 x2.2.2) fun n2 =>
  if n2 ≠ 0 then
  (some n2)
  else
  (gd (Dh (aa + (x2.1.length : Int))) <|
  EB walks Ak Ae start Ac ab (aa + (x2.1.length : Int)))
def Iy (walks Ak : El) (Ae start : Int) (Ac : JB) : Option Int :=
  EB walks Ak Ae start Ac Ac 0
def Ez (walks Ak : El) (Ae start : Int) (Ac : JB) : El → Option Int
  | [] =>
  Iy walks Ak Ae start Ac
  | x :: aa =>
  b1 (FC walks Ak Ae start Ac x) fun n =>
  if n ≠ 0 then
  (some n)
  else
  (Ez walks Ak Ae start Ac aa)
def Jd (walks Ak : El) (Ae start : Int) (Ac : JB) : Option Int :=
  b1 (Fm walks Ak Ae start Ac) fun ok =>
  if (!ok) = true then
  (some 2)
  else
  (b1 (Gs walks Ak Ae start Ac start) fun aa =>
  if (!aa) = true then
  (some 1)
  else
  (b1 (Gf walks Ak Ae start Ac) fun ab =>
  if (!ab) = true then
  (some 3)
  else
  (Ez walks Ak Ae start Ac Ak)))
def Cw : List Int → Int → Option Int
  | [], aa =>
  some aa
  | x :: ab, aa =>
  b1 (if x ≠ (-1) then
  (if aa = (-1) then
  (some true)
  else
  (some (decide (x < aa))))
  else
  (some false)) fun k2 =>
  if k2 = true then
  (Cw ab x)
  else
  (Cw ab aa)
def E3 (l : List Int) : Option Int :=
  b1 (Cw l (-1)) fun out =>
  some out
def Cf (w : List Int) (k k2 : Int) : Nat → Int → (List Int) → Option (List Int)
  | 0, _k3, aa =>
  some aa
  | ab + 1, k3, aa =>
  b1 (gd (0 ≤ k ∧ k < 5) <|
  gd (0 ≤ k3 ∧ k3 < 5) <|
  ix w (k * 5 + k3) fun x =>
  if x ≠ (-1) then
  (gd (0 ≤ k3 ∧ k3 < 5) <|
  gd (0 ≤ k2 ∧ k2 < 5) <|
  ix w (k3 * 5 + k2) fun x2 =>
  some (decide (x2 ≠ (-1))))
  else
  (some false)) fun k4 =>
  if k4 = true then
  (gd (0 ≤ k ∧ k < 5) <|
  gd (0 ≤ k2 ∧ k2 < 5) <|
  ix aa (k * 5 + k2) fun x3 =>
  gd (0 ≤ k ∧ k < 5) <|
  gd (0 ≤ k3 ∧ k3 < 5) <|
  ix w (k * 5 + k3) fun x4 =>
  gd (0 ≤ k3 ∧ k3 < 5) <|
  gd (0 ≤ k2 ∧ k2 < 5) <|
  ix w (k3 * 5 + k2) fun x5 =>
  gd (Dh (x4 + x5)) <|
  gd (0 ≤ k ∧ k < 5) <|
  b1 (E3 [x3, x4 + x5]) fun n =>
  gd (0 ≤ k2 ∧ k2 < 5) <|
  bv (aa.set (k * 5 + k2 : Int).toNat n) fun l =>
  Cf w k k2 ab (k3 + 1) l)
  else
  (Cf w k k2 ab (k3 + 1) aa)
def CG (w : List Int) (k : Int) : Nat → Int → (List Int) → Option (List Int)
  | 0, _k2, aa =>
  some aa
  | ad + 1, k2, aa =>
  b1 (gd (Dh 0 ∧ Dh 5) <|
  Cf w k k2 (Int.toNat (5 - 0)) 0 aa) fun ab =>
  CG w k ad (k2 + 1) ab
def CC (w : List Int) : Nat → Int → (List Int) → Option (List Int)
  | 0, _k, aa =>
  some aa
  | ad + 1, k, aa =>
  b1 (gd (Dh 0 ∧ Dh 5) <|
  CG w k (Int.toNat (5 - 0)) 0 aa) fun ab =>
  CC w ad (k + 1) ab
def De (w : List Int) : Option (List Int) :=
  b1 (gd (Dh 0 ∧ Dh 5) <|
  CC w (Int.toNat (5 - 0)) 0 w) fun out =>
  some out
def Bt : List Int → (List Int) → Option (List Int)
  | [], aa =>
  some aa
  | x :: ab, aa =>
  ap aa [x] fun ad =>
  Bt ab ad
def DT (s_ seq : List Int) : Option (List Int) :=
  b1 (Bt seq s_) fun aa =>
  some aa
def Ff (seq : List Int) : Option (List Int) :=
  b1 (DT [] seq) fun l =>
  some l
def GV (x : Int) : Option Bool :=
  some (decide (x ≠ x))
def GH (x y : Int) : Option Bool :=
  b1 (GV x) fun ok =>
  if ok = true then
  (b1 (GV y) fun aa =>
  if (!aa) = true then
  (some true)
  else
  (some (decide (x < y))))
  else
  (some (decide (x < y)))
def Be (a : Int) : Nat → (List Int) → Int → Option (List Int)
  | 0, _, _ => none
  | ab + 1, aa, j =>
  b1 (if a < j then
  (ix aa j fun x =>
  gd (Dh (j - 1)) <|
  ix aa (j - 1) fun x2 =>
  b1 (GH x x2) fun ok =>
  some ok)
  else
  (some false)) fun k =>
  if k = true then
  (gd (Dh (j - 1)) <|
  gd (Dh (j - 1)) <|
  ix aa (j - 1) fun x3 =>
  ix aa j fun x4 =>
  bv (aa.set (j : Int).toNat x3) fun l =>
  ix l (j - 1) fun _x5 =>
  bv (l.set (j - 1 : Int).toNat x4) fun l2 =>
  gd (Dh (j - 1)) <|
  Be a ab l2 (j - 1))
  else
  (some aa)
def Bn (a : Int) : Nat → Int → (List Int) → Option (List Int)
  | 0, _i, data =>
  some data
  | ab + 1, i, data =>
  b1 (Be a FU data i) fun aa =>
  Bn a ab (i + 1) aa
def BS (s_ : List Int) (a b : Int) : Option (List Int) :=
  gd (Dh (a + 1)) <|
  gd (Dh (a + 1) ∧ Dh b) <|
  Bn a (Int.toNat (b - (a + 1))) (a + 1) s_
def Jr (x : Int) : Option Int :=
  b2 (if 4294967296 ≤ x then
  (some (shr x 32, 32))
  else
  (some (x, 0))) fun x2 n =>
  b2 (if 65536 ≤ x2 then
  (gd (Dh (n + 16)) <|
  some (shr x2 16, n + 16))
  else
  (some (x2, n))) fun x3 n2 =>
  b2 (if 256 ≤ x3 then
  (gd (Dh (n2 + 8)) <|
  some (shr x3 8, n2 + 8))
  else
  (some (x3, n2))) fun x4 n3 =>
  ix Uy (x4 % 256) fun x5 =>
  gd (Dh x5) <|
  gd (Dh (n3 + x5)) <|
  some (n3 + x5)
def FP (x : Int) : Option Int :=
  b1 (Jr x) fun n =>
  some n
def BM (s_ : List Int) (a b : Int) : Nat → Option (List Int)
  | 0 => none
  | _ab + 1 =>
  gd (Dh (b - a)) <|
  gd ((b - a) ≤ 12) <|
  b1 (BS s_ a b) fun aa =>
  some aa
def Du (_ab : (List Int) → Int → Int → Int → Option ((List Int))) (s_ : List Int) (a b _aa : Int) : Option (List Int) :=
  BM s_ a b FU
def BD : Nat → (List Int) → Int → Int → Int → Option (List Int)
  | 0, _, _, _, _ => none
  | fu + 1, s_, a, b, aa =>
  Du (BD fu) s_ a b aa
def DM (s_ : List Int) : Option (List Int) :=
  b1 (FP ((s_.length : Int) % 18446744073709551616)) fun n =>
  b1 (BD FU s_ 0 (s_.length : Int) n) fun aa =>
  some aa
def Eh (seq : List Int) : Option (List Int) :=
  b1 (Ff seq) fun l =>
  b1 (DM l) fun s_ =>
  some s_
def BN : List Int → Option (List Int)
  | [] =>
  some []
  | x :: aa =>
  yl x <|
  BN aa
def D6 (s_ : List Int) : Option (List Int) :=
  BN s_
def Cr (s_ : List Int) : Option (List Int) :=
  b1 (D6 s_) fun l =>
  some l
def Dz (walks : El) (k : Int) : Nat → Int → (List Int) → Option (List Int)
  | 0, _k2, aa =>
  some aa
  | ab + 1, k2, aa =>
  gd (0 ≤ k ∧ k < 5) <|
  gd (0 ≤ k2 ∧ k2 < 5) <|
  ix aa (k * 5 + k2) fun _x =>
  bv (aa.set (k * 5 + k2 : Int).toNat (-1)) fun ws =>
  b1 (if k < (walks.length : Int) then
  (some (decide (k2 < (walks.length : Int))))
  else
  (some false)) fun k3 =>
  if k3 = true then
  (ix walks k fun x2 =>
  ix x2 k2 fun x3 =>
  gd (0 ≤ k ∧ k < 5) <|
  gd (0 ≤ k2 ∧ k2 < 5) <|
  ix ws (k * 5 + k2) fun _x4 =>
  bv (ws.set (k * 5 + k2 : Int).toNat x3) fun ad =>
  Dz walks k ab (k2 + 1) ad)
  else
  (Dz walks k ab (k2 + 1) ws)
def Dy (walks : El) : Nat → Int → (List Int) → Option (List Int)
  | 0, _k, aa =>
  some aa
  | ad + 1, k, aa =>
  b1 (gd (Dh 0 ∧ Dh 5) <|
  Dz walks k (Int.toNat (5 - 0)) 0 aa) fun ab =>
  Dy walks ad (k + 1) ab
def DY : Nat → (List Int) → (List Int) → Option (List Int)
  | 0, _, _ => none
  | ad + 1, aa, ab =>
  gd (∀ x_ ∈ ab, Dh x_) <|
  gd (∀ x_ ∈ aa, Dh x_) <|
  if ab ≠ aa then
  (b1 (De ab) fun a2 =>
  DY ad ab a2)
  else
  (some aa)
def DV (k4 : Int) (aa : List (Int × Int)) (x6 : Int) : El → Int → (List Int) → Option (List Int)
  | [], _k6, ab =>
  some ab
  | x7 :: ad, k6, ab =>
  b1 (Bv x7 x6) fun ok =>
  if ok = true then
  (gd (0 ≤ k6 ∧ k6 < 5) <|
  gd (0 ≤ k4 ∧ k4 < 3) <|
  ix ab (k6 * 3 + k4) fun x8 =>
  gd ((0 ≤ ((aa.length : Int) : Int) ∧ ((aa.length : Int) : Int) < 64) ∧ Dh (shl 1 (aa.length : Int))) <|
  gd (0 ≤ k6 ∧ k6 < 5) <|
  gd (0 ≤ k4 ∧ k4 < 3) <|
  bv (ab.set (k6 * 3 + k4 : Int).toNat (OD x8 (shl 1 (aa.length : Int)))) fun ae =>
  DV k4 aa x6 ad (k6 + 1) ae)
  else
  (DV k4 aa x6 ad (k6 + 1) ab)
def Ek (Ak : El) (k4 : Int) : List Int → (List (Int × Int)) → (List Int) → Option ((List (Int × Int)) × (List Int))
  | [], aa, ab =>
  some (aa, ab)
  | x6 :: ah, aa, ab =>
  b2 (b1 (DV k4 aa x6 Ak 0 ab) fun ae =>
  ap aa [(k4, x6)] fun c =>
  some (c, ae)) fun ad af =>
  Ek Ak k4 ah ad af
def DX (Ak : El) : JB → Int → (List (Int × Int)) → (List Int) → Option ((List (Int × Int)) × (List Int))
  | [], _k4, aa, ab =>
  some (aa, ab)
  | x5 :: af, k4, aa, ab =>
  b2 (b1 (Cr x5.1) fun y =>
  b1 (Eh y) fun l =>
  Ek Ak k4 l aa ab) fun ad ae =>
  DX Ak af (k4 + 1) ad ae
def DZ (walks Ak : El) (Ae start : Int) (Ac : JB) : Option ((Option (El × El × Int × Int × JB × (List Int) × (List (Int × Int)) × (List Int))) × Int) :=
  b1 (Jd walks Ak Ae start Ac) fun n =>
  if n ≠ 0 then
  (some (none, n))
  else
  (b1 (gd (Dh 0 ∧ Dh 5) <|
  Dy walks (Int.toNat (5 - 0)) 0 (List.replicate 25 0)) fun aa =>
  b1 (b1 (De aa) fun a =>
  DY FU aa a) fun ab =>
  b2 (DX Ak Ac 0 [] (List.replicate 15 0)) fun ad ae =>
  some (some (walks, Ak, Ae, start, Ac, ab, ad, ae), 0))
def EK (k : Int) (rec1 : Int → Option (List ((Int × Int) × Int))) : Option (List ((Int × Int) × Int)) :=
  rec1 (k + 1)
def B7 (hit : List Int) (Cm k : Int) (rec1 : Int → Option (List ((Int × Int) × Int))) : JB → Int → Option (List ((Int × Int) × Int))
  | [], _k2 =>
  EK k rec1
  | _x2 :: aa, k2 =>
  gd (0 ≤ k ∧ k < 5) <|
  gd (0 ≤ k2 ∧ k2 < 3) <|
  ix hit (k * 3 + k2) fun x3 =>
  if (LN Cm x3) ≠ Cm then
  (yl ((k, k2), LN Cm x3) <|
  B7 hit Cm k rec1 aa (k2 + 1))
  else
  (B7 hit Cm k rec1 aa (k2 + 1))
def BJ (Ac : JB) (hit : List Int) (Cm : Int) : El → Int → Option (List ((Int × Int) × Int))
  | [], _k =>
  some []
  | _x :: aa, k =>
  B7 hit Cm k (BJ Ac hit Cm aa) Ac 0
def FG (_walks Ak : El) (_Ae _start : Int) (Ac : JB) (_A5 : List Int) (_Bs : List (Int × Int)) (hit : List Int) (Cm : Int) : Option (List ((Int × Int) × Int)) :=
  BJ Ac hit Cm Ak 0
def Fb (walks Ak : El) (Ae start : Int) (Ac : JB) (A5 : List Int) (Bs : List (Int × Int)) (hit : List Int) (Cm : Int) : Option (List ((Int × Int) × Int)) :=
  b1 (FG walks Ak Ae start Ac A5 Bs hit Cm) fun l =>
  some l
def BA : Nat → (List (Int × Int)) → Int → Int → Option (List (Int × Int))
  | 0, _, _, _ => none
  | ab + 1, aa, i, j =>
  if i < j then
  (ix aa j fun x =>
  ix aa i fun x2 =>
  bv (aa.set (i : Int).toNat (x.1, x.2)) fun l =>
  ix l j fun _x3 =>
  bv (l.set (j : Int).toNat (x2.1, x2.2)) fun l2 =>
  gd (Dh (i + 1)) <|
  gd (Dh (j - 1)) <|
  BA ab l2 (i + 1) (j - 1))
  else
  (some aa)
def Co (s_ : List (Int × Int)) : Option (List (Int × Int)) :=
  gd (Dh ((s_.length : Int) - 1)) <|
  BA FU s_ 0 ((s_.length : Int) - 1)
def B1 (Ac : JB) (A5 : List Int) (ok : (Int × Int) → Option Bool) (aa : Int) (ad : List ((Int × Int) × (Int × Int × Int × Int × Int))) (k : Int) : List ((Int × Int) × Int) → (List ((Int × Int) × (Int × Int × Int × Int × Int))) → Option (List ((Int × Int) × (Int × Int × Int × Int × Int)))
  | [], ab =>
  some ab
  | x2 :: ae, ab =>
  gd (0 ≤ k ∧ k < 5) <|
  gd (0 ≤ x2.1.1 ∧ x2.1.1 < 5) <|
  ix A5 (k * 5 + x2.1.1) fun x3 =>
  if x3 = (-1) then
  (B1 Ac A5 ok aa ad k ae ab)
  else
  (gd (Dh ((((A7 ad (k, aa)).getD (0, 0, 0, 0, 0)).1) + x3)) <|
  ix Ac x2.1.2 fun x4 =>
  gd (Dh (((((A7 ad (k, aa)).getD (0, 0, 0, 0, 0)).1) + x3) + x4.2.1)) <|
  bv (((((A7 ad (k, aa)).getD (0, 0, 0, 0, 0)).1) + x3) + x4.2.1) fun end_ =>
  b1 (b1 (ok (x2.1.2, end_)) fun ah =>
  if ah = true then
  (if (!((A7 ab (x2.1.1, x2.2)).isSome)) = true then
  (some true)
  else
  (some (decide (end_ < (((A7 ab (x2.1.1, x2.2)).getD (0, 0, 0, 0, 0)).1)))))
  else
  (some false)) fun k2 =>
  if k2 = true then
  (bv (HQ ab (x2.1.1, x2.2) (end_, x2.1.1, x2.1.2, k, aa)) fun af =>
  B1 Ac A5 ok aa ad k ae af)
  else
  (B1 Ac A5 ok aa ad k ae ab))
def C2 (walks Ak : El) (Ae start : Int) (Ac : JB) (A5 : List Int) (Bs : List (Int × Int)) (hit : List Int) (ok : (Int × Int) → Option Bool) (aa : Int) : El → Int → (List ((Int × Int) × (Int × Int × Int × Int × Int))) → Option (List ((Int × Int) × (Int × Int × Int × Int × Int)))
  | [], _k, ab =>
  some ab
  | _x :: ae, k, ab =>
  b1 (if (!((A7 ab (k, aa)).isSome)) = true then
  (some ab)
  else
  (b1 (Fb walks Ak Ae start Ac A5 Bs hit aa) fun y =>
  B1 Ac A5 ok aa ab k y ab)) fun ad =>
  C2 walks Ak Ae start Ac A5 Bs hit ok aa ae (k + 1) ad
def C1 (walks Ak : El) (Ae start : Int) (Ac : JB) (A5 : List Int) (Bs : List (Int × Int)) (hit : List Int) (Cm : Int) (ok : (Int × Int) → Option Bool) : Nat → (List ((Int × Int) × (Int × Int × Int × Int × Int))) → Int → Option (List ((Int × Int) × (Int × Int × Int × Int × Int)))
  | 0, _, _ => none
  | ae + 1, ab, aa =>
  if 0 < aa then
  (b1 (if (LN aa Cm) ≠ 0 then
  (some ab)
  else
  (C2 walks Ak Ae start Ac A5 Bs hit ok aa Ak 0 ab)) fun ad =>
  gd (Dh (aa - 1)) <|
  C1 walks Ak Ae start Ac A5 Bs hit Cm ok ae ad (aa - 1))
  else
  (some ab)
def Ck (ad : List ((Int × Int) × (Int × Int × Int × Int × Int))) : El → Int → Int → Int → Option (Int × Int)
  | [], _k3, aa, ab =>
  some (aa, ab)
  | _x5 :: af, k3, aa, ab =>
  b1 (if ((A7 ad (k3, 0)).isSome) = true then
  (if ab = (-1) then
  (some true)
  else
  (some (decide ((((A7 ad (k3, 0)).getD (0, 0, 0, 0, 0)).1) < ab))))
  else
  (some false)) fun k4 =>
  if k4 = true then
  (bv (((A7 ad (k3, 0)).getD (0, 0, 0, 0, 0)).1) fun ae =>
  Ck ad af (k3 + 1) k3 ae)
  else
  (Ck ad af (k3 + 1) aa ab)
def Cx (Cm : Int) (ad : List ((Int × Int) × (Int × Int × Int × Int × Int))) : Nat → Int → Int → (List (Int × Int)) → Option (List (Int × Int))
  | 0, _, _, _ => none
  | ah + 1, aa, ab, ae =>
  if ab ≠ Cm then
  (ap ae [(((A7 ad (aa, ab)).getD (0, 0, 0, 0, 0)).2.1, ((A7 ad (aa, ab)).getD (0, 0, 0, 0, 0)).2.2.1)] fun af =>
  Cx Cm ad ah (((A7 ad (aa, ab)).getD (0, 0, 0, 0, 0)).2.2.2.1) (((A7 ad (aa, ab)).getD (0, 0, 0, 0, 0)).2.2.2.2) af)
  else
  (some ae)
def EM (walks Ak : El) (Ae start : Int) (Ac : JB) (A5 : List Int) (Bs : List (Int × Int)) (hit : List Int) (Cm : Int) (ok : (Int × Int) → Option Bool) : Option ((List (Int × Int)) × Int × Bool) :=
  bv (HQ [] (start, Cm) (0, 0, 0, 0, 0)) fun met =>
  b1 (C1 walks Ak Ae start Ac A5 Bs hit Cm ok FU met Cm) fun ab =>
  b2 (Ck ab Ak 0 (-1) (-1)) fun aa minute =>
  if minute = (-1) then
  (some ([], 0, false))
  else
  (b1 (Cx Cm ab FU aa 0 []) fun out =>
  b1 (Co out) fun s_ =>
  some (s_, minute, true))
def GN (_walks _Ak : El) (_Ae _start : Int) (_Ac : JB) (_A5 : List Int) (Bs : List (Int × Int)) (_hit : List Int) : Option Int :=
  gd ((0 ≤ ((Bs.length : Int) : Int) ∧ ((Bs.length : Int) : Int) < 64) ∧ Dh (shl 1 (Bs.length : Int))) <|
  gd (Dh ((shl 1 (Bs.length : Int)) - 1)) <|
  some ((shl 1 (Bs.length : Int)) - 1)
def D8 (BW minute last : Int) (_walks _Ak : El) (_Ae _start : Int) (Ac : JB) (_A5 : List Int) (_Bs : List (Int × Int)) (_hit : List Int) : Option Bool :=
  ix Ac BW fun x =>
  some (decide (minute ≤ (if x.2.2 < last then x.2.2 else last)))
def Iv (walks Ak : El) (Ae start : Int) (Ac : JB) (A5 : List Int) (Bs : List (Int × Int)) (hit : List Int) (last : Int) : Option ((Int × Int) → Option Bool) :=
  some (fun aa : Int × Int => D8 aa.1 aa.2 last walks Ak Ae start Ac A5 Bs hit)
def G4 (walks Ak : El) (Ae start : Int) (Ac : JB) (A5 : List Int) (Bs : List (Int × Int)) (hit : List Int) : Option ((Int × Int) → Option Bool) :=
  b1 (Iv walks Ak Ae start Ac A5 Bs hit 200) fun y =>
  some y
def Dx (walks Ak : El) (Ae start : Int) (Ac : JB) : Option ((List (Int × Int)) × Int × Int) :=
  b2 (DZ walks Ak Ae start Ac) fun d n =>
  if n ≠ 0 then
  (some ([], 0, n))
  else
  (b8 d fun A5 ad ab ae aa af Bs hit =>
  b1 (GN A5 ad ab ae aa af Bs hit) fun n2 =>
  b1 (G4 A5 ad ab ae aa af Bs hit) fun y =>
  b3 (EM A5 ad ab ae aa af Bs hit n2 y) fun l n3 ok =>
  if (!ok) = true then
  (some ([], 0, 6))
  else
  (some (l, n3, 0)))
def HV : List Int → Int → Option Int
  | [], n3 =>
  some n3
  | x :: aa, n3 =>
  HV aa (if x < n3 then x else n3)
def ND (n : Int) (more : List Int) : Option Int :=
  b1 (HV more n) fun n2 =>
  some n2
def ML (a b : Int) : Option Bool :=
  gd (Dh (a - b)) <|
  gd (Dh ((a - b) + 8)) <|
  gd (Dh (8 - (Int.tmod ((a - b) + 8) 8))) <|
  b1 (ND (Int.tmod ((a - b) + 8) 8) [8 - (Int.tmod ((a - b) + 8) 8)]) fun n =>
  some (decide (n ≤ 1))
def GU (_Ae _Ac : Int) (_Ak : NC) (Aw : List Int) (_A1 : NH) (hour BC : Int) : Option Bool :=
  ix Aw hour fun x =>
  if x = (-1) then
  (some true)
  else
  (b1 (ML BC x) fun ok =>
  some ok)
def Hq (s_ : List Int) : Option (List Int) :=
  QL (s_ = []) (some []) (ap ([] : List Int) s_ fun l =>
  some l)
def Fz (x : Int × Int × Int) : List Int → (List Bool) → Option (List Bool)
  | [], g5 =>
  some g5
  | x4 :: aa, g5 =>
  gd (0 ≤ x4 ∧ x4 < 6) <|
  gd (0 ≤ x.2.2 ∧ x.2.2 < 4) <|
  ix g5 (x4 * 4 + x.2.2) fun _x5 =>
  bv (g5.set (x4 * 4 + x.2.2 : Int).toNat true) fun l =>
  Fz x aa l
def Fx (Ak : NC) (hour BC : Int) : NH → (List Bool) → Option (List Bool)
  | [], g3 =>
  some g3
  | x :: aa, g3 =>
  b1 (if x.1 ≠ hour then
  (some g3)
  else
  (ix Ak x.2.1 fun x2 =>
  ix x2 BC fun x3 =>
  Fz x x3 g3)) fun g4 =>
  Fx Ak hour BC aa g4
def Ke (_Ae _Ac : Int) (Ak : NC) (_Aw : List Int) (A1 : NH) (g : List Bool) (hour BC : Int) : Option (List Bool) :=
  b1 (Fx Ak hour BC A1 g) fun g2 =>
  some g2
def E9 (BC : Int) : Nat → Int → Option (List Int)
  | 0, _k =>
  some []
  | aa + 1, k =>
  b1 (ML k BC) fun ok =>
  if ok = true then
  (yl k <|
  E9 BC aa (k + 1))
  else
  (E9 BC aa (k + 1))
def Ky (BC : Int) : Option (List Int) :=
  gd (Dh 0 ∧ Dh 8) <|
  E9 BC (Int.toNat (8 - 0)) 0
def Mn (BC : Int) : Option (List Int) :=
  b1 (Ky BC) fun l =>
  some l
def C0 : Option Int :=
  some (-1)
def BL (f : ((List Bool) × (List Int)) → Option Bool) : List ((List Bool) × (List Int)) → Int → Option Int
  | [], _k =>
  C0
  | x :: aa, k =>
  b1 (f (x.1, x.2)) fun ok =>
  if ok = true then
  (some k)
  else
  (BL f aa (k + 1))
def Dg (s_ : List ((List Bool) × (List Int))) (f : ((List Bool) × (List Int)) → Option Bool) : Option Int :=
  BL f s_ 0
def CZ (s_ : List ((List Bool) × (List Int))) (f : ((List Bool) × (List Int)) → Option Bool) : Option Bool :=
  b1 (Dg s_ f) fun n =>
  some (decide (0 ≤ n))
def Gb (_BC : Int) (SI : List Bool) (HL : List Int) (aa : Int) (x : (Int × Int) → Option Bool) (x2 Ae Ac : Int) (Ak : NC) (Aw : List Int) (A1 : NH) (x3 : List ((Int × (List Bool)) × Bool)) (ab : List (Int × (List Bool) × (List Int))) : Option ((List ((Int × (List Bool)) × Bool)) × (List (Int × (List Bool) × (List Int)))) :=
  b1 (x (x2, aa)) fun ok =>
  if (!ok) = true then
  (some (x3, ab))
  else
  (b1 (Ke Ae Ac Ak Aw A1 SI x2 aa) fun a =>
  gd (Dh aa) <|
  if (!((A7 x3 (aa, a)).getD false)) = true then
  (gd (Dh aa) <|
  bv (HQ x3 (aa, a) true) fun met =>
  b1 (Hq HL) fun l =>
  ap l [aa] fun l2 =>
  ap ab [(aa, a, l2)] fun l3 =>
  some (met, l3))
  else
  (some (x3, ab)))
def FX (SI : List Bool) (_HL : List Int) (_BC : Int) (ab : List Bool) (_aa : List Int) : Option Bool :=
  some (decide (SI = ab))
def EF (Ae Ac : Int) (Ak : NC) (Aw : List Int) (A1 : NH) (k : Int) : Nat → Int → (List (Int × (List Bool) × (List Int))) → (List ((Int × (List Bool)) × Bool)) → Option ((List (Int × (List Bool) × (List Int))) × (List ((Int × (List Bool)) × Bool)))
  | 0, _k2, aa, m2 =>
  some (aa, m2)
  | ae + 1, k2, aa, m2 =>
  b2 (Gb 0 (List.replicate 24 false) [] k2 (fun ad : Int × Int => GU Ae Ac Ak Aw A1 ad.1 ad.2) k Ae Ac Ak Aw A1 m2 aa) fun x2 ab =>
  EF Ae Ac Ak Aw A1 k ae (k2 + 1) ab x2
def Ev (Ae Ac : Int) (Ak : NC) (Aw : List Int) (A1 : NH) (k : Int) (x3 : Int × (List Bool) × (List Int)) : List Int → (List (Int × (List Bool) × (List Int))) → (List ((Int × (List Bool)) × Bool)) → Option ((List (Int × (List Bool) × (List Int))) × (List ((Int × (List Bool)) × Bool)))
  | [], aa, m5 =>
  some (aa, m5)
  | x4 :: ae, aa, m5 =>
  b2 (Gb x3.1 x3.2.1 x3.2.2 x4 (fun ad : Int × Int => GU Ae Ac Ak Aw A1 ad.1 ad.2) k Ae Ac Ak Aw A1 m5 aa) fun x5 ab =>
  Ev Ae Ac Ak Aw A1 k x3 ae ab x5
def EA (Ae Ac : Int) (Ak : NC) (Aw : List Int) (A1 : NH) (k : Int) : List (Int × (List Bool) × (List Int)) → (List (Int × (List Bool) × (List Int))) → (List ((Int × (List Bool)) × Bool)) → Option (List (Int × (List Bool) × (List Int)))
  | [], aa, _m3 =>
  some aa
  | x3 :: ad, aa, m3 =>
  b2 (b1 (Mn x3.1) fun y =>
  Ev Ae Ac Ak Aw A1 k x3 y aa m3) fun ab m4 =>
  EA Ae Ac Ak Aw A1 k ad ab m4
def ED (Ae Ac : Int) (Ak : NC) (Aw : List Int) (A1 : NH) : List Int → Int → (List (Int × (List Bool) × (List Int))) → Option (List (Int × (List Bool) × (List Int)))
  | [], _k, aa =>
  some aa
  | _x :: af, k, aa =>
  b1 (b2 (if k = 0 then
  (gd (Dh 0 ∧ Dh 8) <|
  EF Ae Ac Ak Aw A1 k (Int.toNat (8 - 0)) 0 [] [])
  else
  (some ([], []))) fun ab m =>
  b1 (EA Ae Ac Ak Aw A1 k aa ab m) fun ad =>
  some ad) fun ae =>
  ED Ae Ac Ak Aw A1 af (k + 1) ae
def D7 : List (Int × (List Bool) × (List Int)) → (List ((List Bool) × (List Int))) → Option (List ((List Bool) × (List Int)))
  | [], aa =>
  some aa
  | x6 :: ad, aa =>
  b1 (CZ aa (fun ae : ((List Bool) × (List Int)) => FX ae.1 ae.2 x6.1 x6.2.1 x6.2.2)) fun ok =>
  if (!ok) = true then
  (ap aa [(x6.2.1, x6.2.2)] fun ab =>
  D7 ad ab)
  else
  (D7 ad aa)
def Ir (Ae Ac : Int) (Ak : NC) (Aw : List Int) (A1 : NH) : Option (List ((List Bool) × (List Int))) :=
  b1 (ED Ae Ac Ak Aw A1 Aw 0 []) fun now =>
  b1 (D7 now []) fun out =>
  some out
def Iw (n lo hi : Int) : Option Bool :=
  if lo ≤ n then
  (some (decide (n ≤ hi)))
  else
  (some false)
def Jl (Ae _Ac : Int) (_Ak : NC) (_Aw : List Int) (_A1 : NH) (h : Int) : Option Bool :=
  gd (Dh (Ae - 1)) <|
  b1 (Iw h 0 (Ae - 1)) fun ok =>
  some ok
def HK : Option Int :=
  some 0
def EU (Ae Ac : Int) (Ak : NC) (Aw : List Int) (A1 : NH) (l : List Int) : List Int → Int → Option Int
  | [], _k =>
  HK
  | x :: aa, k =>
  b1 (Jl Ae Ac Ak Aw A1 x) fun ok =>
  if (!ok) = true then
  (some 1)
  else
  (gd ((0 ≤ (0 : Int) ∧ (0 : Int) ≤ k) ∧ k ≤ l.length) <|
  bv (sl l 0 k) fun l2 =>
  b1 (Bv l2 x) fun ab =>
  if ab = true then
  (some 5)
  else
  (EU Ae Ac Ak Aw A1 l aa (k + 1)))
def I4 (Ae Ac : Int) (Ak : NC) (Aw : List Int) (A1 : NH) (l : List Int) : Option Int :=
  EU Ae Ac Ak Aw A1 l l 0
def EN : Option Int :=
  some (-1)
def Db (f : Int → Option Bool) : List Int → Int → Option Int
  | [], _k =>
  EN
  | x :: aa, k =>
  b1 (f x) fun ok =>
  if ok = true then
  (some k)
  else
  (Db f aa (k + 1))
def Fu (s_ : List Int) (f : Int → Option Bool) : Option Int :=
  Db f s_ 0
def ER (s_ : List Int) (f : Int → Option Bool) : Option Bool :=
  b1 (Fu s_ f) fun n =>
  some (decide (0 ≤ n))
def HD (x : Int) (so : Int → Option Bool) : Option Bool :=
  b1 (so x) fun ok =>
  some (!ok)
def J1 (l : List Int) (so : Int → Option Bool) : Option Bool :=
  b1 (ER l (fun aa : Int => HD aa so)) fun ok =>
  some (!ok)
def Ex : Option Int :=
  some (-1)
def C3 (f : El → Option Bool) : NC → Int → Option Int
  | [], _k =>
  Ex
  | x :: aa, k =>
  b1 (f x) fun ok =>
  if ok = true then
  (some k)
  else
  (C3 f aa (k + 1))
def Fj (s_ : NC) (f : El → Option Bool) : Option Int :=
  C3 f s_ 0
def EH (s_ : NC) (f : El → Option Bool) : Option Bool :=
  b1 (Fj s_ f) fun n =>
  some (decide (0 ≤ n))
def G5 (x : El) (so : El → Option Bool) : Option Bool :=
  b1 (so x) fun ok =>
  some (!ok)
def Jq (l : NC) (so : El → Option Bool) : Option Bool :=
  b1 (EH l (fun aa : El => G5 aa so)) fun ok =>
  some (!ok)
def Ga (l : El) : Option Bool :=
  some (decide ((l.length : Int) = 8))
def IB (Ae Ac : Int) (Ak : NC) (Aw : List Int) (A1 : NH) : Option Bool :=
  b1 (Iw Ae 1 6) fun ok =>
  if ok = true then
  (b1 (Iw Ac 1 4) fun aa =>
  if aa = true then
  (b1 (Iw (Ak.length : Int) 1 4) fun ab =>
  if ab = true then
  (b1 (Iw (Aw.length : Int) 1 8) fun ad =>
  if ad = true then
  (if (A1.length : Int) ≤ 12 then
  (b1 (Jq Ak (fun ae : El => Ga ae)) fun af =>
  some af)
  else
  (some false))
  else
  (some false))
  else
  (some false))
  else
  (some false))
  else
  (some false)
def ME (n : Int) : Option Bool :=
  if n = (-1) then
  (some true)
  else
  (b1 (Iw n 0 7) fun ok =>
  some ok)
def DG : Option Int :=
  some (-1)
def B9 (f : (Int × Int × Int) → Option Bool) : NH → Int → Option Int
  | [], _k =>
  DG
  | x :: aa, k =>
  b1 (f (x.1, x.2.1, x.2.2)) fun ok =>
  if ok = true then
  (some k)
  else
  (B9 f aa (k + 1))
def D2 (s_ : NH) (f : (Int × Int × Int) → Option Bool) : Option Int :=
  B9 f s_ 0
def DD (s_ : NH) (f : (Int × Int × Int) → Option Bool) : Option Bool :=
  b1 (D2 s_ f) fun n =>
  some (decide (0 ≤ n))
def Hz (hour stand BW : Int) (so : (Int × Int × Int) → Option Bool) : Option Bool :=
  b1 (so (hour, stand, BW)) fun ok =>
  some (!ok)
def J3 (l : NH) (so : (Int × Int × Int) → Option Bool) : Option Bool :=
  b1 (DD l (fun aa : (Int × Int × Int) => Hz aa.1 aa.2.1 aa.2.2 so)) fun ok =>
  some (!ok)
def IX (_Ae Ac : Int) (_Ak : NC) (_Aw : List Int) (_A1 : NH) (n : Int) : Option Bool :=
  gd (Dh (Ac - 1)) <|
  b1 (Iw n 0 (Ac - 1)) fun ok =>
  some ok
def JW (_Ae _Ac : Int) (_Ak : NC) (Aw : List Int) (_A1 : NH) (h : Int) : Option Bool :=
  gd (Dh ((Aw.length : Int) - 1)) <|
  b1 (Iw h 0 ((Aw.length : Int) - 1)) fun ok =>
  some ok
def JH (hour stand BW Ae Ac : Int) (Ak : NC) (Aw : List Int) (A1 : NH) : Option Bool :=
  b1 (JW Ae Ac Ak Aw A1 hour) fun ok =>
  if ok = true then
  (gd (Dh ((Ak.length : Int) - 1)) <|
  b1 (Iw stand 0 ((Ak.length : Int) - 1)) fun aa =>
  if aa = true then
  (b1 (IX Ae Ac Ak Aw A1 BW) fun ab =>
  some ab)
  else
  (some false))
  else
  (some false)
def KB (rec2 : Option Int) : Option Int :=
  rec2
def HR (Ae Ac : Int) (Ak : NC) (Aw : List Int) (A1 : NH) (rec2 : Option Int) : El → Option Int
  | [] =>
  KB rec2
  | x2 :: aa =>
  b1 (I4 Ae Ac Ak Aw A1 x2) fun n =>
  if n ≠ 0 then
  (some n)
  else
  (HR Ae Ac Ak Aw A1 rec2 aa)
def KE (Ae Ac : Int) (Ak : NC) (Aw : List Int) (A1 : NH) : Option Int :=
  b1 (J1 Aw (fun aa : Int => ME aa)) fun ab =>
  if (!ab) = true then
  (some 3)
  else
  (b1 (J3 A1 (fun aa : (Int × Int × Int) => JH aa.1 aa.2.1 aa.2.2 Ae Ac Ak Aw A1)) fun ad =>
  if (!ad) = true then
  (some 1)
  else
  (some 0))
def FO (Ae Ac : Int) (Ak : NC) (Aw : List Int) (A1 : NH) : NC → Option Int
  | [] =>
  KE Ae Ac Ak Aw A1
  | x :: aa =>
  HR Ae Ac Ak Aw A1 (FO Ae Ac Ak Aw A1 aa) x
def Nz (Ae Ac : Int) (Ak : NC) (Aw : List Int) (A1 : NH) : Option Int :=
  b1 (IB Ae Ac Ak Aw A1) fun ok =>
  if (!ok) = true then
  (some 2)
  else
  (FO Ae Ac Ak Aw A1 Ak)
def Mf (Ae Ac : Int) (Ak : NC) (Aw : List Int) (A1 : NH) : Option ((Option (Int × Int × NC × (List Int) × NH)) × Int) :=
  b1 (Nz Ae Ac Ak Aw A1) fun n =>
  if n ≠ 0 then
  (some (none, n))
  else
  (some (some (Ae, Ac, Ak, Aw, A1), 0))
def OS (Ae Ac : Int) (Ak : NC) (Aw : List Int) (A1 : NH) : Option ((Option (Int × Int × NC × (List Int) × NH)) × (List ((List Bool) × (List Int))) × Int) :=
  b2 (Mf Ae Ac Ak Aw A1) fun d n =>
  if n ≠ 0 then
  (some (none, [], n))
  else
  (b5 d fun ad ab ae aa af =>
  b1 (Ir ad ab ae aa af) fun l =>
  if (l.length : Int) = 0 then
  (some (none, [], 7))
  else
  (some (some (ad, ab, ae, aa, af), l, 0)))
def E7 (k k2 : Int) : List ((List Bool) × (List Int)) → Int → Option Int
  | [], aa =>
  some aa
  | x :: ab, aa =>
  gd (0 ≤ k ∧ k < 6) <|
  gd (0 ≤ k2 ∧ k2 < 4) <|
  ix x.1 (k * 4 + k2) fun x2 =>
  if x2 = true then
  (gd (Dh (aa + 1)) <|
  E7 k k2 ab (aa + 1))
  else
  (E7 k k2 ab aa)
def Gt (l : List ((List Bool) × (List Int))) (k : Int) : Nat → Int → El → Option El
  | 0, _k2, aa =>
  some aa
  | ae + 1, k2, aa =>
  b1 (b1 (E7 k k2 l 0) fun many =>
  b1 (if many = (l.length : Int) then
  (some 1)
  else
  (if many = 0 then
  (some 2)
  else
  (some 0))) fun v =>
  ix aa k fun x3 =>
  ap x3 [v] fun l3 =>
  bv (aa.set (k : Int).toNat l3) fun ab =>
  some ab) fun ad =>
  Gt l k ae (k2 + 1) ad
def Gi (Ac : Int) (l : List ((List Bool) × (List Int))) : Nat → Int → El → Option El
  | 0, _k, aa =>
  some aa
  | ad + 1, k, aa =>
  b1 (gd (Dh 0 ∧ Dh Ac) <|
  Gt l k (Int.toNat (Ac - 0)) 0 aa) fun ab =>
  Gi Ac l ad (k + 1) ab
def KA (Ae Ac : Int) (Ak : NC) (Aw : List Int) (A1 : NH) : Option (El × Int) :=
  b3 (OS Ae Ac Ak Aw A1) fun _d l n =>
  if n ≠ 0 then
  (some ([], n))
  else
  (gd (0 ≤ Ae ∧ Ae ≤ 1048576) <|
  bv (List.replicate (Ae : Int).toNat [] : El) fun l2 =>
  b1 (gd (Dh 0 ∧ Dh (l2.length : Int)) <|
  Gi Ac l (Int.toNat ((l2.length : Int) - 0)) 0 l2) fun out =>
  some (out, 0))
def H3 (n lo hi : Int) : Option Bool :=
  if lo ≤ n then
  (some (decide (n ≤ hi)))
  else
  (some false)
def Fa (_wide : Int) (plots : List Int) (p : Int) : Option Bool :=
  gd (Dh ((plots.length : Int) - 1)) <|
  b1 (H3 p 0 ((plots.length : Int) - 1)) fun ok =>
  some ok
def GI (wide : Int) (plots : List Int) (p kind : Int) : Option Int :=
  b1 (Fa wide plots p) fun ok =>
  if (!ok) = true then
  (some 1)
  else
  (ix plots p fun x =>
  if x ≠ kind then
  (some 8)
  else
  (some 0))
def Dm : Option Int :=
  some (-1)
def Bu (f : Int → Option Bool) : List Int → Int → Option Int
  | [], _k =>
  Dm
  | x :: aa, k =>
  b1 (f x) fun ok =>
  if ok = true then
  (some k)
  else
  (Bu f aa (k + 1))
def CS (s_ : List Int) (f : Int → Option Bool) : Option Int :=
  Bu f s_ 0
def Cu (s_ : List Int) (f : Int → Option Bool) : Option Bool :=
  b1 (CS s_ f) fun n =>
  some (decide (0 ≤ n))
def EL (x : Int) (so : Int → Option Bool) : Option Bool :=
  b1 (so x) fun ok =>
  some (!ok)
def GP (l : List Int) (so : Int → Option Bool) : Option Bool :=
  b1 (Cu l (fun aa : Int => EL aa so)) fun ok =>
  some (!ok)
def It (p : Int) : Option Bool :=
  b1 (H3 p 0 2) fun ok =>
  some ok
def CT : List Int → Int → Option Int
  | [], n2 =>
  some n2
  | x :: aa, n2 =>
  if x = 1 then
  (gd (Dh (n2 + 1)) <|
  CT aa (n2 + 1))
  else
  (CT aa n2)
def Gg (_wide : Int) (plots : List Int) : Option Int :=
  b1 (CT plots 0) fun n =>
  some n
def Ic (wide : Int) (plots : List Int) : Option Int :=
  b1 (b1 (H3 wide 1 6) fun ok =>
  if (!ok) = true then
  (some true)
  else
  (b1 (H3 (plots.length : Int) 1 30) fun aa =>
  if (!aa) = true then
  (some true)
  else
  (gd (wide ≠ 0) <|
  some (decide ((Int.tmod (plots.length : Int) wide) ≠ 0))))) fun k =>
  if k = true then
  (some 2)
  else
  (b1 (GP plots (fun ab : Int => It ab)) fun ad =>
  if (!ad) = true then
  (some 3)
  else
  (b1 (Gg wide plots) fun n =>
  if 10 < n then
  (some 2)
  else
  (some 0)))
def Gq (w : Int) : Option Bool :=
  b1 (H3 w 0 4) fun ok =>
  some ok
def Nw : Option (List (Int × (Int × Int))) :=
  bv (HQ [] 1 (-1, 0)) fun met =>
  bv (HQ met 2 (0, 1)) fun aa =>
  bv (HQ aa 3 (1, 0)) fun ab =>
  bv (HQ ab 4 (0, -1)) fun ad =>
  some ad
def Ii (wide : Int) (plots : List Int) (BC : Int) : Option ((Option (Int × (List Int) × Int × Int × Bool)) × Int) :=
  b1 (Ic wide plots) fun n =>
  if n ≠ 0 then
  (some (none, n))
  else
  (b1 (Gq BC) fun ok =>
  if (!ok) = true then
  (some (none, 3))
  else
  (b1 (Nw) fun m =>
  some (some (wide, plots, ((A7 m BC).getD (0, 0)).1, ((A7 m BC).getD (0, 0)).2, (A7 m BC).isSome), 0)))
def HU (wide : Int) (plots : List Int) (BC stand : Int) : Option ((Option (Int × (List Int) × Int × Int × Bool)) × Int) :=
  b2 (Ii wide plots BC) fun d n =>
  if n ≠ 0 then
  (some (none, n))
  else
  (b1 (GI wide plots stand 0) fun n2 =>
  if n2 ≠ 0 then
  (some (none, n2))
  else
  (some (d, 0)))
def Fh (_wide : Int) (plots : List Int) (p : Int) : Option Bool :=
  ix plots p fun x =>
  some (decide (x = 2))
def IA (down BT : Int) : Option (Int × Int) :=
  gd (Dh (-down)) <|
  gd (Dh (-BT)) <|
  some (-down, -BT)
def Fv (_wide : Int) (plots : List Int) (down BT : Int) (Ds : Bool) (ab aa to : Int) : Option Int :=
  b1 (if (!Ds) = true then
  (some 2)
  else
  (if ab = down ∧ aa = BT then
  (some 1)
  else
  (b2 (IA down BT) fun n2 n3 =>
  if ab = n2 ∧ aa = n3 then
  (some 4)
  else
  (some 2)))) fun n =>
  ix plots to fun x =>
  if x = 1 then
  (gd (Dh (n + 1)) <|
  some (n + 1))
  else
  (some n)
def BX (p wide : Int) (plots : List Int) (down BT : Int) (Ds : Bool) (closed : Int → Option Bool) : Nat → Int → Option (List (Int × Int))
  | 0, _k =>
  some []
  | aa + 1, k =>
  ix [(-1, 0), (0, -1), (0, 1), (1, 0)] k fun x =>
  gd (Dh (x.1 * wide)) <|
  gd (Dh (p + (x.1 * wide))) <|
  gd (Dh ((p + (x.1 * wide)) + x.2)) <|
  b1 (Fa wide plots ((p + (x.1 * wide)) + x.2)) fun ok =>
  if (!ok) = true then
  (BX p wide plots down BT Ds closed aa (k + 1))
  else
  (if x.1 = 0 then
  (gd ((wide : Int) ≠ 0 ∧ Dh (Int.tdiv ((p + (x.1 * wide)) + x.2) wide)) <|
  gd ((wide : Int) ≠ 0 ∧ Dh (Int.tdiv p wide)) <|
  if (Int.tdiv ((p + (x.1 * wide)) + x.2) wide) ≠ (Int.tdiv p wide) then
  (BX p wide plots down BT Ds closed aa (k + 1))
  else
  (b1 (closed ((p + (x.1 * wide)) + x.2)) fun ab =>
  if ab = true then
  (BX p wide plots down BT Ds closed aa (k + 1))
  else
  (b1 (Fv wide plots down BT Ds x.1 x.2 ((p + (x.1 * wide)) + x.2)) fun n =>
  yl ((p + (x.1 * wide)) + x.2, n) <|
  BX p wide plots down BT Ds closed aa (k + 1))))
  else
  (b1 (closed ((p + (x.1 * wide)) + x.2)) fun ad =>
  if ad = true then
  (BX p wide plots down BT Ds closed aa (k + 1))
  else
  (b1 (Fv wide plots down BT Ds x.1 x.2 ((p + (x.1 * wide)) + x.2)) fun n2 =>
  yl ((p + (x.1 * wide)) + x.2, n2) <|
  BX p wide plots down BT Ds closed aa (k + 1))))
def Hy (p wide : Int) (plots : List Int) (down BT : Int) (Ds : Bool) (closed : Int → Option Bool) : Option (List (Int × Int)) :=
  gd (Dh 0 ∧ Dh 4) <|
  BX p wide plots down BT Ds closed (Int.toNat (4 - 0)) 0
def Hr (wide : Int) (plots : List Int) (down BT : Int) (Ds : Bool) (p : Int) : Option (List (Int × Int)) :=
  b1 (Hy p wide plots down BT Ds (fun aa : Int => Fh wide plots aa)) fun l =>
  some l
def DO : Nat → Int → (List Int) → Option (List Int)
  | 0, _k, aa =>
  some aa
  | ad + 1, k, aa =>
  ix aa k fun _x =>
  bv (aa.set (k : Int).toNat (-1)) fun ab =>
  DO ad (k + 1) ab
def Cz (x3 : Int) (rec2 : (List Int) → (List Int) → Option (List Int)) : List (Int × Int) → (List Int) → (List Int) → Option (List Int)
  | [], aa, ab =>
  rec2 aa ab
  | x4 :: ae, aa, ab =>
  b1 (ix aa x4.1 fun x5 =>
  if x5 = (-1) then
  (some true)
  else
  (ix aa x3 fun x6 =>
  gd (Dh (x6 + x4.2)) <|
  some (decide ((x6 + x4.2) < x5)))) fun k2 =>
  if k2 = true then
  (ix aa x3 fun x7 =>
  gd (Dh (x7 + x4.2)) <|
  ix aa x4.1 fun _x8 =>
  bv (aa.set (x4.1 : Int).toNat (x7 + x4.2)) fun l2 =>
  ap ab [x4.1] fun ad =>
  Cz x3 rec2 ae l2 ad)
  else
  (Cz x3 rec2 ae aa ab)
def DP (wide : Int) (plots : List Int) (down BT : Int) (Ds : Bool) : Nat → (List Int) → (List Int) → Option (List Int)
  | 0, _, _ => none
  | ad + 1, aa, line =>
  if 0 < (line.length : Int) then
  (ix line 0 fun x3 =>
  gd ((0 ≤ (1 : Int) ∧ (1 : Int) ≤ (line.length : Int)) ∧ (line.length : Int) ≤ line.length) <|
  bv (sl line 1 (line.length : Int)) fun ab =>
  b1 (Hr wide plots down BT Ds x3) fun y =>
  Cz x3 (DP wide plots down BT Ds ad) y aa ab)
  else
  (some aa)
def Gu (wide : Int) (plots : List Int) (down BT : Int) (Ds : Bool) (stand : Int) : Option (List Int) :=
  gd (0 ≤ (plots.length : Int) ∧ (plots.length : Int) ≤ 1048576) <|
  bv (List.replicate ((plots.length : Int) : Int).toNat 0 : List Int) fun l =>
  b1 (gd (Dh 0 ∧ Dh (l.length : Int)) <|
  DO (Int.toNat ((l.length : Int) - 0)) 0 l) fun out =>
  ix out stand fun _x2 =>
  bv (out.set (stand : Int).toNat 0) fun aa =>
  b1 (DP wide plots down BT Ds FU aa [stand]) fun ab =>
  some ab
def IU (wide : Int) (plots : List Int) (BC stand : Int) : Option ((List Int) × Int) :=
  b2 (HU wide plots BC stand) fun d n =>
  if n ≠ 0 then
  (some ([], n))
  else
  (b5 d fun ab aa down BT Ds =>
  b1 (Gu ab aa down BT Ds stand) fun l =>
  some (l, 0))
def Fk (x : List Int) : Nat → (List Int) → Nat → Option (List Int)
  | 0, _, _ => none
  | ab + 1, aa, pos =>
  if pos < x.length then
  (ix x (pos : Nat) fun c =>
  gd (0 ≤ c ∧ c < 128) <|
  b1 (if c = 115 then
  (some 0)
  else
  (some 2)) fun p =>
  b1 (if c = 104 then
  (some 1)
  else
  (some p)) fun p2 =>
  ap aa [p2] fun t =>
  Fk x ab t (pos + 1))
  else
  (some aa)
def Fo : El → Int → (List Int) → Option (Int × (List Int))
  | [], ab, aa =>
  some (ab, aa)
  | x :: ae, _ab, aa =>
  b1 (Fk x FU aa 0) fun ad =>
  Fo ae (x.length : Int) ad
def Jp (rows : El) : Option (Int × (List Int)) :=
  b2 (Fo rows 0 []) fun ab aa =>
  some (ab, aa)
def Jt : Option (El × El × Int × Int × JB) :=
  some ([[0, 2, -1], [2, 0, 2], [-1, 2, 0]], [[0], [1], [1, 2]], 3, 0, [([0, 2], 3, 12), ([1], 1, 20)])
def Ki : Option (Int × Int × NC × (List Int) × NH) :=
  some (2, 1, [[[0], [0, 1], [1], [1], [], [], [], []]], [1, -1, 4], [(0, 0, 0), (2, 0, 0)])
def Gn : Option Bool :=
  some true
def D5 (s2 : List Int) : List Int → Int → Option Bool
  | [], _k =>
  Gn
  | x :: aa, k =>
  ix s2 k fun x2 =>
  if x ≠ x2 then
  (some false)
  else
  (D5 s2 aa (k + 1))
def Ht (s1 s2 : List Int) : Option Bool :=
  if (s1.length : Int) ≠ (s2.length : Int) then
  (some false)
  else
  (D5 s2 s1 0)
def IV (a b : List Int) : Option Bool :=
  b1 (Ht a b) fun ok =>
  some ok
def BE : Option Bool :=
  some true
def Ba (s2 : El) (eq : ((List Int) × (List Int)) → Option Bool) : El → Int → Option Bool
  | [], _k =>
  BE
  | x :: aa, k =>
  ix s2 k fun x2 =>
  b1 (eq (x, x2)) fun ok =>
  if (!ok) = true then
  (some false)
  else
  (Ba s2 eq aa (k + 1))
def BF (s1 s2 : El) (eq : ((List Int) × (List Int)) → Option Bool) : Option Bool :=
  if (s1.length : Int) ≠ (s2.length : Int) then
  (some false)
  else
  (Ba s2 eq s1 0)
def Da : Option Bool :=
  some true
def BR (s2 : List Int) : List Int → Int → Option Bool
  | [], _k =>
  Da
  | x :: aa, k =>
  ix s2 k fun x2 =>
  if x ≠ x2 then
  (some false)
  else
  (BR s2 aa (k + 1))
def CF (s1 s2 : List Int) : Option Bool :=
  if (s1.length : Int) ≠ (s2.length : Int) then
  (some false)
  else
  (BR s2 s1 0)
def FR (a b : El) : Option Bool :=
  b1 (BF a b (fun aa : (List Int) × (List Int) => CF aa.1 aa.2)) fun ok =>
  some ok
def DW : Option Bool :=
  b2 (Jp [[115, 104, 115, 104]]) fun n l =>
  b2 (IU n l 4 0) fun l2 n2 =>
  b5 (Jt) fun l3 l4 n3 n4 l5 =>
  b3 (Dx l3 l4 n3 n4 l5) fun _l6 n5 n6 =>
  b5 (Ki) fun n7 n8 l7 l8 l9 =>
  b2 (KA n7 n8 l7 l8 l9) fun aa n9 =>
  if n2 = 0 then
  (if n6 = 0 then
  (if n9 = 0 then
  (b1 (IV l2 [0, 5, 9, 14]) fun ok =>
  if ok = true then
  (if n5 = 11 then
  (b1 (FR aa [[0], [1]]) fun ab =>
  some ab)
  else
  (some false))
  else
  (some false))
  else
  (some false))
  else
  (some false))
  else
  (some false)
def JQ (wide : Int) (plots : List Int) (BC stand E6 : Int) : Option (Int × Int) :=
  b2 (IU wide plots BC stand) fun l n =>
  if n ≠ 0 then
  (some (0, n))
  else
  (b1 (Fa wide plots E6) fun ok =>
  if (!ok) = true then
  (some (0, 1))
  else
  (ix l E6 fun x =>
  if x = (-1) then
  (some (0, 6))
  else
  (some (x, 0))))
def FE (l : List Int) : Option (List Int) :=
  gd (0 ≤ (l.length : Int) ∧ (l.length : Int) ≤ 1048576) <|
  bv (List.replicate ((l.length : Int) : Int).toNat 0 : List Int) fun l2 =>
  bv (aT l2 l) fun out =>
  some out
def HW (wide : Int) (plots : List Int) : Option (Int × (List Int)) :=
  b1 (FE plots) fun l =>
  some (wide, l)
def Cy (start : Int) (Ac : JB) (A5 : List Int) (BW Dr : Int) : El → Int → Int → Option Int
  | [], _k, aa =>
  some aa
  | x :: ab, k, aa =>
  gd (0 ≤ start ∧ start < 5) <|
  gd (0 ≤ k ∧ k < 5) <|
  ix A5 (start * 5 + k) fun x2 =>
  b1 (if x2 ≠ (-1) then
  (b1 (Bv x Dr) fun ok =>
  some ok)
  else
  (some false)) fun k2 =>
  if k2 = true then
  (ix Ac BW fun x3 =>
  gd (Dh (x2 + x3.2.1)) <|
  b1 (E3 [aa, x2 + x3.2.1]) fun n =>
  Cy start Ac A5 BW Dr ab (k + 1) n)
  else
  (Cy start Ac A5 BW Dr ab (k + 1) aa)
def Ej (_walks Ak : El) (_Ae start : Int) (Ac : JB) (A5 : List Int) (_Bs : List (Int × Int)) (_hit : List Int) (BW Dr : Int) : Option Int :=
  b1 (Cy start Ac A5 BW Dr Ak 0 (-1)) fun out =>
  some out
def Et (Ac : JB) (A5 ad : El) (ab ae : Int) (aa : JB) (af : List Int) (Bs : List (Int × Int)) (hit : List Int) : List (Int × Int) → (List (Int × Int)) → Option (List (Int × Int))
  | [], ah =>
  some ah
  | x :: aj, ah =>
  b1 (Ej A5 ad ab ae aa af Bs hit x.1 x.2) fun n2 =>
  ix Ac x.1 fun x2 =>
  b1 (Gr n2 0 x2.2.2) fun ok =>
  if (!ok) = true then
  (ap ah [(x.1, x.2)] fun ai =>
  Et Ac A5 ad ab ae aa af Bs hit aj ai)
  else
  (Et Ac A5 ad ab ae aa af Bs hit aj ah)
def I1 (walks Ak : El) (Ae start : Int) (Ac : JB) : Option ((List (Int × Int)) × Int) :=
  b2 (DZ walks Ak Ae start Ac) fun d n =>
  if n ≠ 0 then
  (some ([], n))
  else
  (b1 (b8 d fun A5 ad ab ae aa af Bs hit =>
  Et Ac A5 ad ab ae aa af Bs hit Bs []) fun out =>
  some (out, 0))
def HS (BC BI : Int) : Option Int :=
  b1 (b1 (Gq BC) fun ok =>
  if (!ok) = true then
  (some true)
  else
  (b1 (H3 BI 1 40) fun aa =>
  some (!aa))) fun k =>
  if k = true then
  (some 3)
  else
  (some 0)
def CL (plots : List Int) (BI k : Int) : List Int → Int → (List (List Bool)) → Option (List (List Bool))
  | [], _k2, aa =>
  some aa
  | x2 :: ad, k2, aa =>
  b1 (ix plots k2 fun x3 =>
  if x3 = 1 then
  (b1 (H3 x2 0 BI) fun ok =>
  some ok)
  else
  (some false)) fun k3 =>
  if k3 = true then
  (ix aa k2 fun x4 =>
  ix x4 k fun _x5 =>
  bv (aa.set (k2 : Int).toNat (x4.set (k : Int).toNat true)) fun ab =>
  CL plots BI k ad (k2 + 1) ab)
  else
  (CL plots BI k ad (k2 + 1) aa)
def Dv (wide : Int) (plots : List Int) (down BT : Int) (Ds : Bool) (BI : Int) : List Int → Int → (List (List Bool)) → Option (List (List Bool))
  | [], _k, aa =>
  some aa
  | x :: ad, k, aa =>
  b1 (if x ≠ 0 then
  (some aa)
  else
  (b1 (Gu wide plots down BT Ds k) fun l2 =>
  CL plots BI k l2 0 aa)) fun ab =>
  Dv wide plots down BT Ds BI ad (k + 1) ab
def GL (wide : Int) (plots : List Int) (down BT : Int) (Ds : Bool) (BI : Int) : Option (List (List Bool)) :=
  gd (0 ≤ (plots.length : Int) ∧ (plots.length : Int) ≤ 1048576) <|
  bv (List.replicate ((plots.length : Int) : Int).toNat (List.replicate 30 false) : List (List Bool)) fun l =>
  b1 (Dv wide plots down BT Ds BI plots 0 l) fun out =>
  some out
def I2 (wide : Int) (plots : List Int) (BC BI : Int) : Option ((List (List Bool)) × Int) :=
  b1 (Ic wide plots) fun n =>
  if n ≠ 0 then
  (some ([], n))
  else
  (b1 (HS BC BI) fun n2 =>
  if n2 ≠ 0 then
  (some ([], n2))
  else
  (b2 (Ii wide plots BC) fun d _n3 =>
  b5 d fun ab aa down BT Ds =>
  b1 (GL ab aa down BT Ds BI) fun l =>
  some (l, 0)))
def EV (l : List (List Bool)) : List Int → Int → (List Int) → Option (List Int)
  | [], _k, aa =>
  some aa
  | x :: ad, k, aa =>
  b1 (if x = 1 then
  (ix l k fun x2 =>
  some (decide (x2 = (List.replicate 30 false))))
  else
  (some false)) fun k2 =>
  if k2 = true then
  (ap aa [k] fun ab =>
  EV l ad (k + 1) ab)
  else
  (EV l ad (k + 1) aa)
def I5 (wide : Int) (plots : List Int) (BC BI : Int) : Option ((List Int) × Int) :=
  b2 (I2 wide plots BC BI) fun l n =>
  if n ≠ 0 then
  (some ([], n))
  else
  (b1 (EV l plots 0 []) fun out =>
  some (out, 0))
def C9 : Option Int :=
  some (-1)
def Bb (f : (Int × Int) → Option Bool) : List (Int × Int) → Int → Option Int
  | [], _k =>
  C9
  | x :: aa, k =>
  b1 (f (x.1, x.2)) fun ok =>
  if ok = true then
  (some k)
  else
  (Bb f aa (k + 1))
def CE (s_ : List (Int × Int)) (f : (Int × Int) → Option Bool) : Option Int :=
  Bb f s_ 0
def Df (BW Dr aa ab : Int) : Option Bool :=
  some (decide (BW = aa ∧ Dr = ab))
def FL (_walks _Ak : El) (_Ae _start : Int) (_Ac : JB) (_A5 : List Int) (Bs : List (Int × Int)) (_hit : List Int) (BW Dr : Int) : Option Int :=
  b1 (CE Bs (fun aa : (Int × Int) => Df aa.1 aa.2 BW Dr)) fun n =>
  some n
def FN (walks Ak : El) (Ae start : Int) (Ac : JB) (BW Dr : Int) : Option (Int × Int) :=
  b2 (DZ walks Ak Ae start Ac) fun d n =>
  if n ≠ 0 then
  (some (0, n))
  else
  (b8 d fun A5 ad ab ae aa af Bs hit =>
  b1 (FL A5 ad ab ae aa af Bs hit BW Dr) fun n2 =>
  if n2 < 0 then
  (some (0, 1))
  else
  (b1 (Ej A5 ad ab ae aa af Bs hit BW Dr) fun n3 =>
  if n3 = (-1) then
  (some (0, 6))
  else
  (some (n3, 0))))
def DF : Option Int :=
  some (-1)
def BB (BW Dr : Int) : List (Int × Int) → Int → Option Int
  | [], _k =>
  DF
  | x :: aa, k =>
  if BW = x.1 ∧ Dr = x.2 then
  (some k)
  else
  (BB BW Dr aa (k + 1))
def C6 (s_ : List (Int × Int)) (BW Dr : Int) : Option Int :=
  BB BW Dr s_ 0
def B4 (s_ : List (Int × Int)) (BW Dr : Int) : Option Bool :=
  b1 (C6 s_ BW Dr) fun n =>
  some (decide (0 ≤ n))
def H7 : Option Int :=
  some 0
def D3 (wide : Int) (plots Ae : List Int) : List Int → Int → Option Int
  | [], _k =>
  H7
  | x :: ab, k =>
  b1 (GI wide plots x 1) fun n =>
  if n ≠ 0 then
  (some n)
  else
  (gd ((0 ≤ (0 : Int) ∧ (0 : Int) ≤ k) ∧ k ≤ Ae.length) <|
  bv (sl Ae 0 k) fun aa =>
  b1 (Bv aa x) fun ok =>
  if ok = true then
  (some 5)
  else
  (D3 wide plots Ae ab (k + 1)))
def H2 (wide : Int) (plots Ae : List Int) : Option Int :=
  D3 wide plots Ae Ae 0
def FA : Nat → Int → Int → Option Int
  | 0, _, _ => none
  | ab + 1, aa, n2 =>
  if 0 < aa then
  (gd (Dh (n2 + (Int.tmod aa 2))) <|
  gd ((2 : Int) ≠ 0 ∧ Dh (Int.tdiv aa 2)) <|
  FA ab (Int.tdiv aa 2) (n2 + (Int.tmod aa 2)))
  else
  (some n2)
def Ig (Cm : Int) : Option Int :=
  b1 (FA FU Cm 0) fun n =>
  some n
def EZ (l : List (List Bool)) : List Int → (List (List Bool)) → Option (List (List Bool))
  | [], aa =>
  some aa
  | x :: ab, aa =>
  ix l x fun x2 =>
  ap aa [x2] fun l2 =>
  EZ l ab l2
def Kl (wide : Int) (plots : List Int) (BC BI : Int) (Ae : List Int) : Option ((List (List Bool)) × Bool × Int) :=
  b2 (I2 wide plots BC BI) fun l n =>
  if n ≠ 0 then
  (some ([], false, n))
  else
  (b1 (H2 wide plots Ae) fun n2 =>
  if n2 ≠ 0 then
  (some ([], false, n2))
  else
  (b1 (EZ l Ae []) fun aa =>
  some (aa, true, 0)))
def DS : Option Int :=
  some (-1)
def BG (v : List Bool) : List (List Bool) → Int → Option Int
  | [], _k =>
  DS
  | x :: aa, k =>
  if v = x then
  (some k)
  else
  (BG v aa (k + 1))
def Di (s_ : List (List Bool)) (v : List Bool) : Option Int :=
  BG v s_ 0
def CY (s_ : List (List Bool)) (v : List Bool) : Option Bool :=
  b1 (Di s_ v) fun n =>
  some (decide (0 ≤ n))
def FD (Eg : List (List Bool)) (_count : Int → Option Int) : Option Bool :=
  b1 (CY Eg (List.replicate 30 false)) fun ok =>
  some ok
def Bc (k : Int) : Nat → (List (List Bool)) → Int → Int → Option ((List (List Bool)) × Int)
  | 0, _, _, _ => none
  | ad + 1, ab, k3, aa =>
  if aa < ((ab.length - Int.toNat k : Nat) : Int) then
  (ix (ab.drop (Int.toNat k)) aa fun x3 =>
  gd (Dh (aa - 1)) <|
  ix (ab.drop (Int.toNat k)) (aa - 1) fun x4 =>
  if x3 ≠ x4 then
  (ix ab k3 fun _x5 =>
  bv (ab.set (k3 : Int).toNat x3) fun ae =>
  gd (Dh (k3 + 1)) <|
  gd (Dh (aa + 1)) <|
  Bc k ad ae (k3 + 1) (aa + 1))
  else
  (gd (Dh (aa + 1)) <|
  Bc k ad ab k3 (aa + 1)))
  else
  (some (ab, k3))
def CO (k : Int) (rec2 : Int → Option (List (List Bool))) : Option (List (List Bool)) :=
  rec2 (k + 1)
def CM (s_ : List (List Bool)) : Option (List (List Bool)) :=
  some s_
def Bh (s_ : List (List Bool)) : Nat → Int → Option (List (List Bool))
  | 0, _k =>
  CM s_
  | ad + 1, k =>
  ix s_ k fun x =>
  gd (Dh (k - 1)) <|
  ix s_ (k - 1) fun x2 =>
  if x = x2 then
  (gd (0 ≤ k ∧ k ≤ (s_.length : Int)) <|
  b2 (Bc k FU s_ k 1) fun aa k2 =>
  gd (0 ≤ k2 ∧ k2 ≤ (aa.length : Int)) <|
  bv (aa.take (Int.toNat k2) ++ List.replicate (aa.length - Int.toNat k2) (List.replicate 30 false) : List (List Bool)) fun ab =>
  gd ((0 ≤ (0 : Int) ∧ (0 : Int) ≤ k2) ∧ k2 ≤ ab.length) <|
  bv (sl ab 0 k2) fun ae =>
  some ae)
  else
  CO k (Bh s_ ad)
def Cp (s_ : List (List Bool)) : Option (List (List Bool)) :=
  if (s_.length : Int) < 2 then
  (some s_)
  else
  (gd (Dh 1 ∧ Dh (s_.length : Int)) <|
  Bh s_ (Int.toNat ((s_.length : Int) - 1)) 1)
def CA (s_ : List (List Bool)) : Option (List (List Bool)) :=
  QL (s_ = []) (some []) (ap ([] : List (List Bool)) s_ fun l =>
  some l)
def CK (stand : Int) : List (List Bool) → Int → Int → Option Int
  | [], _k, aa =>
  some aa
  | x :: ab, k, aa =>
  ix x stand fun x2 =>
  if x2 = true then
  (gd ((0 ≤ (k : Int) ∧ (k : Int) < 64) ∧ Dh (shl 1 k)) <|
  CK stand ab (k + 1) (OD aa (shl 1 k)))
  else
  (CK stand ab (k + 1) aa)
def EO (Eg : List (List Bool)) (_count : Int → Option Int) (stand : Int) : Option Int :=
  b1 (CK stand Eg 0 0) fun Cm =>
  some Cm
def FQ : List Int → Int → Option Int
  | [], n3 =>
  some n3
  | x :: aa, n3 =>
  FQ aa (if x < n3 then x else n3)
def J0 (n : Int) (more : List Int) : Option Int :=
  b1 (FQ more n) fun n2 =>
  some n2
def EX (ab : Int → Int → Int → (List (List Bool)) → (Int → Option Int) → (List ((Int × Int × Int) × Int)) → Option (Int × (List ((Int × Int × Int) × Int)))) (from_ aa Cm : Int) (Eg : List (List Bool)) (count : Int → Option Int) (met : List ((Int × Int × Int) × Int)) : Option (Int × (List ((Int × Int × Int) × Int))) :=
  b1 (if aa = 0 then
  (some true)
  else
  (some (decide (from_ = 30)))) fun k =>
  if k = true then
  (b1 (count Cm) fun n =>
  some (n, met))
  else
  (bv ((A7 met (from_, aa, Cm)).getD 0) fun n2 =>
  if ((A7 met (from_, aa, Cm)).isSome) = true then
  (some (n2, met))
  else
  (gd (Dh (from_ + 1)) <|
  b2 (ab (from_ + 1) aa Cm Eg count met) fun n3 ad =>
  b2 (b1 (EO Eg count from_) fun n5 =>
  if (OD Cm n5) ≠ Cm then
  (gd (Dh (from_ + 1)) <|
  gd (Dh (aa - 1)) <|
  b2 (ab (from_ + 1) (aa - 1) (OD Cm n5) Eg count ad) fun n6 ae =>
  some (ae, if n6 > n3 then n6 else n3))
  else
  (some (ad, n3))) fun m n4 =>
  bv (HQ m (from_, aa, Cm) n4) fun af =>
  some (n4, af)))
def BK : Nat → Int → Int → Int → (List (List Bool)) → (Int → Option Int) → (List ((Int × Int × Int) × Int)) → Option (Int × (List ((Int × Int × Int) × Int)))
  | 0, _, _, _, _, _, _ => none
  | fu + 1, from_, aa, Cm, Eg, count, met =>
  EX (BK fu) from_ aa Cm Eg count met
def CI (Eg : List (List Bool)) (count : Int → Option Int) (n2 : Int) : Nat → (List ((Int × Int × Int) × Int)) → Int → Option ((List ((Int × Int × Int) × Int)) × Int)
  | 0, _, _ => none
  | ad + 1, m2, aa =>
  b2 (BK FU 0 aa 0 Eg count m2) fun n3 ab =>
  if n3 < n2 then
  (gd (Dh (aa + 1)) <|
  CI Eg count n2 ad ab (aa + 1))
  else
  (some (ab, aa))
def C7 (Eg : List (List Bool)) (count : Int → Option Int) (n2 ab ad : Int) : Nat → (List ((Int × Int × Int) × Int)) → Int → Option ((List ((Int × Int × Int) × Int)) × Int)
  | 0, _, _ => none
  | af + 1, m5, aa =>
  gd (Dh (aa + 1)) <|
  gd (Dh (ab - 1)) <|
  b1 (EO Eg count aa) fun n4 =>
  b2 (BK FU (aa + 1) (ab - 1) (OD ad n4) Eg count m5) fun n5 ae =>
  if n5 < n2 then
  (gd (Dh (aa + 1)) <|
  C7 Eg count n2 ab ad af ae (aa + 1))
  else
  (some (ae, aa))
def Cg (Eg : List (List Bool)) (count : Int → Option Int) (n2 : Int) : Nat → (List ((Int × Int × Int) × Int)) → Int → Int → Int → (List Int) → Option (List Int)
  | 0, _, _, _, _, _ => none
  | ai + 1, m3, ae, aa, ad, af =>
  if 0 < aa then
  (b2 (C7 Eg count n2 aa ad FU m3 ae) fun m4 ab =>
  ap af [ab] fun ah =>
  gd (Dh (ab + 1)) <|
  gd (Dh (aa - 1)) <|
  b1 (EO Eg count ab) fun n6 =>
  Cg Eg count n2 ai m4 (ab + 1) (aa - 1) (OD ad n6) ah)
  else
  (some af)
def ES (Eg : List (List Bool)) (count : Int → Option Int) (most : Int) : Option ((List Int) × Int) :=
  b1 (J0 most [(Eg.length : Int)]) fun n =>
  b2 (BK FU 0 n 0 Eg count []) fun n2 met =>
  b2 (CI Eg count n2 FU met 0) fun m aa =>
  b1 (Cg Eg count n2 FU m 0 aa 0 []) fun out =>
  some (out, n2)
def Gw (wide : Int) (plots : List Int) (BC BI : Int) (Ae : List Int) : Option ((List Int) × Int) :=
  b3 (Kl wide plots BC BI Ae) fun l y n =>
  if n ≠ 0 then
  (some ([], n))
  else
  (gd (y = true) <|
  b1 (FD l (fun aa : Int => Ig aa)) fun ok =>
  if ok = true then
  (some ([], 6))
  else
  (b1 (CA l) fun l2 =>
  b1 (Cp l2) fun l3 =>
  b2 (ES l3 (fun aa : Int => Ig aa) (l3.length : Int)) fun l4 _n2 =>
  some (l4, 0)))
def Ja (wide : Int) (plots : List Int) (E6 : Int) : Option (Int × (List Int) × Int) :=
  b1 (Ic wide plots) fun n =>
  if n ≠ 0 then
  (some (0, [], n))
  else
  (b1 (GI wide plots E6 0) fun n2 =>
  if n2 ≠ 0 then
  (some (0, [], n2))
  else
  (gd (0 ≤ (plots.length : Int) ∧ (plots.length : Int) ≤ 1048576) <|
  bv (List.replicate ((plots.length : Int) : Int).toNat 0 : List Int) fun l =>
  bv (aT l plots) fun out =>
  ix out E6 fun _x =>
  bv (out.set (E6 : Int).toNat 2) fun aa =>
  some (wide, aa, 0)))
def CB : List Int → Int → (List Int) → Option (List Int)
  | [], _k, aa =>
  some aa
  | _x :: ab, k, aa =>
  ap aa [k] fun l =>
  CB ab (k + 1) l
def DE (A5 : List Int) (ab : (List Int) → Option (El × El × Int × Int × JB × Bool)) (n6 : Int) : Option (El × El × Int × Int × JB × Bool) :=
  ap A5 [n6] fun aa =>
  ab aa
def GC (rec3 : El → El → Option (El × El × Int × Int × JB × Bool)) (aa ab : El) : Option (El × El × Int × Int × JB × Bool) :=
  rec3 aa ab
def Ee (aa ab : El) (own : List Int) (rec3 : El → El → Option (El × El × Int × Int × JB × Bool)) (walks : List Int) : Option (El × El × Int × Int × JB × Bool) :=
  ap ab [own] fun l3 =>
  ap aa [walks] fun l4 =>
  GC rec3 l4 l3
def BZ (wide : Int) (plots Ae : List Int) (hour : Int) (ad : List Int) (aa ab : El) (x2 : Int) (own : List Int) (rec3 : El → El → Option (El × El × Int × Int × JB × Bool)) : List Int → (List Int) → Option (El × El × Int × Int × JB × Bool)
  | [], A5 =>
  Ee aa ab own rec3 A5
  | x5 :: ae, A5 =>
  b2 (HW wide plots) fun n3 l2 =>
  b2 (JQ n3 l2 0 x2 x5) fun n4 n5 =>
  if x2 = x5 then
  (DE A5 (BZ wide plots Ae hour ad aa ab x2 own rec3 ae) 0)
  else
  (b1 (if n5 ≠ 0 then
  (some true)
  else
  (if 20 < n4 then
  (some true)
  else
  (ix plots x5 fun x6 =>
  some (decide (x6 ≠ 0))))) fun k7 =>
  if k7 = true then
  (DE A5 (BZ wide plots Ae hour ad aa ab x2 own rec3 ae) (-1))
  else
  (if n4 < 1 then
  (some (aa, ab, (Ae.length : Int), 0, [(ad, 1 + (Int.tmod hour 3), 20 + (Int.tdiv hour 2))], false))
  else
  (DE A5 (BZ wide plots Ae hour ad aa ab x2 own rec3 ae) n4)))
def DC (wide : Int) (plots Ae : List Int) (hour : Int) (ae aa : List Int) (ab ad : El) (x2 : Int) (rec3 : El → El → Option (El × El × Int × Int × JB × Bool)) (own : List Int) : Option (El × El × Int × Int × JB × Bool) :=
  BZ wide plots Ae hour aa ab ad x2 own rec3 ae []
def CH (wide : Int) (plots : List Int) (BC BI : Int) (Ae : List Int) (hour : Int) (ae aa : List Int) (ab ad : El) (x2 : Int) (rec3 : El → El → Option (El × El × Int × Int × JB × Bool)) : List Int → Int → (List Int) → Option (El × El × Int × Int × JB × Bool)
  | [], _k3, af =>
  DC wide plots Ae hour ae aa ab ad x2 rec3 af
  | x3 :: ai, k3, af =>
  ix plots x2 fun x4 =>
  if x4 ≠ 0 then
  (DC wide plots Ae hour ae aa ab ad x2 rec3 af)
  else
  (b2 (JQ wide plots BC x2 x3) fun n n2 =>
  b1 (if n2 ≠ 0 then
  (some (decide (n2 ≠ 6)))
  else
  (some false)) fun k4 =>
  if k4 = true then
  (some (ab, ad, (Ae.length : Int), 0, [(aa, 1 + (Int.tmod hour 3), 20 + (Int.tdiv hour 2))], false))
  else
  (b1 (if n2 = 0 then
  (some (decide (n ≤ BI)))
  else
  (some false)) fun k5 =>
  if k5 = true then
  (ap af [k3] fun ah =>
  CH wide plots BC BI Ae hour ae aa ab ad x2 rec3 ai (k3 + 1) ah)
  else
  (CH wide plots BC BI Ae hour ae aa ab ad x2 rec3 ai (k3 + 1) af)))
def GA (Ae : List Int) (hour : Int) (aa : List Int) (ab ad : El) : Option (El × El × Int × Int × JB × Bool) :=
  some (ab, ad, (Ae.length : Int), 0, [(aa, 1 + (Int.tmod hour 3), 20 + (Int.tdiv hour 2))], true)
def Bm (wide : Int) (plots : List Int) (BC BI : Int) (Ae : List Int) (hour : Int) (ae aa : List Int) : List Int → El → El → Option (El × El × Int × Int × JB × Bool)
  | [], ab, ad =>
  GA Ae hour aa ab ad
  | x2 :: af, ab, ad =>
  CH wide plots BC BI Ae hour ae aa ab ad x2 (Bm wide plots BC BI Ae hour ae aa af) Ae 0 []
def CU (wide : Int) (plots : List Int) (BC BI : Int) (Ae : List Int) (hour : Int) (aa : List Int) : Option (El × El × Int × Int × JB × Bool) :=
  gd (Dh hour) <|
  gd (Dh (1 + (Int.tmod hour 3))) <|
  gd (Dh hour) <|
  gd ((2 : Int) ≠ 0 ∧ Dh (Int.tdiv hour 2)) <|
  gd (Dh (20 + (Int.tdiv hour 2))) <|
  b1 (CB Ae 0 []) fun ab =>
  Bm wide plots BC BI Ae hour aa ab aa [] []
def Bl : Nat → Int → (List Int) → (List Int) → (List Int) → Option ((List Int) × (List Int) × (List Int))
  | 0, _k, aa, ab, ad =>
  some (aa, ab, ad)
  | ah + 1, k, aa, ab, ad =>
  ix aa k fun x =>
  b1 (if x = 0 then
  (some (decide ((ab.length : Int) < 5)))
  else
  (some false)) fun k2 =>
  if k2 = true then
  (ap ab [k] fun ae =>
  Bl ah (k + 1) aa ae ad)
  else
  (b1 (if x = 1 then
  (some (decide ((ad.length : Int) < 5)))
  else
  (some false)) fun k3 =>
  if k3 = true then
  (ap ad [k] fun af =>
  Bl ah (k + 1) aa ab af)
  else
  (bv (aa.set (k : Int).toNat 2) fun t =>
  Bl ah (k + 1) t ab ad))
def Dt : List (Int × Int) → (List (Int × Bool)) → Option (List (Int × Bool))
  | [], aa =>
  some aa
  | x4 :: ad, aa =>
  bv (HQ aa x4.1 true) fun ab =>
  Dt ad ab
def Ea (hour ab ae n n2 n3 : Int) (ad aa Ae : List Int) (n7 n8 : Int) : Option Bool :=
  gd (Dh ab) <|
  gd (Dh (n3 + (Int.tmod ab 9))) <|
  b6 (CU n ad n2 (if n3 + (Int.tmod ab 9) < 40 then n3 + (Int.tmod ab 9) else 40) Ae hour aa) fun l9 aq ar au av aw =>
  b3 (Dx l9 aq ar au av) fun _bo ax ak =>
  b1 (if (!aw) = true then
  (some true)
  else
  (if ak ≠ 0 then
  (if ak ≠ 6 then
  (some true)
  else
  (if n8 = 0 then
  (some true)
  else
  (some false)))
  else
  (if n8 = 0 then
  (some (decide (n7 < ax)))
  else
  (some false)))) fun k9 =>
  if k9 = true then
  (some false)
  else
  (if (aa.length : Int) = 1 then
  (b1 (DW) fun ay =>
  some ay)
  else
  (gd (Dh ae) <|
  gd (Dh ((aa.length : Int) - 1)) <|
  gd (((aa.length : Int) - 1) ≠ 0) <|
  gd (Dh (1 + (Int.tmod ae ((aa.length : Int) - 1)))) <|
  ix aa (1 + (Int.tmod ae ((aa.length : Int) - 1))) fun x5 =>
  b3 (Ja n ad x5) fun az al ba =>
  b1 (if ba ≠ 0 then
  (some true)
  else
  (some (decide ((al.length : Int) ≠ (ad.length : Int))))) fun bb =>
  if bb = true then
  (some false)
  else
  (b6 (CU az al n2 n3 Ae hour aa) fun bc bg bj bk bl bm =>
  b3 (Dx bc bg bj bk bl) fun _bp ao af =>
  if bm = true then
  (if af = 0 then
  (if af ≠ 0 then
  (b1 (DW) fun bn =>
  some bn)
  else
  (if n8 = 0 then
  (if n7 ≤ ao then
  (b1 (DW) fun ah =>
  some ah)
  else
  (some false))
  else
  (some false)))
  else
  (if af = 6 then
  (if af ≠ 0 then
  (b1 (DW) fun ai =>
  some ai)
  else
  (if n8 = 0 then
  (if n7 ≤ ao then
  (b1 (DW) fun aj =>
  some aj)
  else
  (some false))
  else
  (some false)))
  else
  (some false)))
  else
  (some false))))
def D4 (hour ad ae n n2 n3 : Int) (aa ab Ae : List Int) (l6 : List (Int × Int)) (n7 n8 : Int) : Option Bool :=
  if n8 = 0 then
  (b2 (Gw n aa n2 n3 Ae) fun l8 ah =>
  b1 (Dt l6 []) fun af =>
  b1 (if ah ≠ 0 then
  (some true)
  else
  (some (decide ((af.length : Int) < (l8.length : Int))))) fun k8 =>
  if k8 = true then
  (some false)
  else
  Ea hour ad ae n n2 n3 aa ab Ae n7 n8)
  else
  Ea hour ad ae n n2 n3 aa ab Ae n7 n8
def C4 (hour ad ae n n2 n3 : Int) (aa ab Ae : List Int) (l2 l3 : El) (n4 n5 : Int) (l4 : JB) (l5 l6 : List (Int × Int)) (n7 n8 : Int) (l7 : List Int) : List Int → Int → Option Bool
  | [], _k5 =>
  D4 hour ad ae n n2 n3 aa ab Ae l6 n7 n8
  | x2 :: ah, k5 =>
  b2 (FN l2 l3 n4 n5 l4 0 k5) fun ai aj =>
  b1 (B4 l5 0 k5) fun af =>
  b1 (if aj ≠ 0 then
  (if af ≠ true then
  (some true)
  else
  (b1 (Bv l7 x2) fun ak =>
  if ak = true then
  (some (!af))
  else
  (some false)))
  else
  (ix l4 0 fun x3 =>
  if af ≠ (decide (x3.2.2 < ai)) then
  (some true)
  else
  (b1 (Bv l7 x2) fun al =>
  if al = true then
  (some (!af))
  else
  (some false)))) fun k6 =>
  if k6 = true then
  (some false)
  else
  (C4 hour ad ae n n2 n3 aa ab Ae l2 l3 n4 n5 l4 l5 l6 n7 n8 l7 ah (k5 + 1))
def FK (numbers : List Int) (hour ad ae : Int) : Option Bool :=
  b3 (JE numbers) fun metal at_ G2 =>
  b4 (Ho metal at_ G2 12) fun n l ah af =>
  b4 (GS metal ah af) fun n2 n3 _aj _ai =>
  b3 (gd (Dh 0 ∧ Dh (l.length : Int)) <|
  Bl (Int.toNat ((l.length : Int) - 0)) 0 l [] []) fun aa ab Ae =>
  if (Ae.length : Int) = 0 then
  (b1 (DW) fun ok =>
  some ok)
  else
  (b6 (CU n aa n2 n3 Ae hour ab) fun l2 l3 n4 n5 l4 ak =>
  b2 (I1 l2 l3 n4 n5 l4) fun l5 n6 =>
  b3 (Dx l2 l3 n4 n5 l4) fun l6 n7 n8 =>
  b2 (I5 n aa n2 n3) fun l7 n9 =>
  b1 (if (!ak) = true then
  (some true)
  else
  (if n6 ≠ 0 then
  (some true)
  else
  (if n8 ≠ 0 then
  (if n8 ≠ 6 then
  (some true)
  else
  (some (decide (n9 ≠ 0))))
  else
  (some (decide (n9 ≠ 0)))))) fun k4 =>
  if k4 = true then
  (some false)
  else
  (C4 hour ad ae n n2 n3 aa ab Ae l2 l3 n4 n5 l4 l5 l6 n7 n8 l7 Ae 0))
end Go.Proofs.YtfmapnhfamoecaaGreat
