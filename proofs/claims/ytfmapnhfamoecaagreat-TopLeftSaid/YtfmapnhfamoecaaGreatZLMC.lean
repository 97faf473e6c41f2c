/- Layer 7: where a notice must be cried again; BookRepeated; in plain Lean. -/
import Derived.Test.YtfmapnhfamoecaaGreatZLMB
namespace Go.Proofs.YtfmapnhfamoecaaGreat.Bk
open Go.PL Rv
theorem Wv (x y : Int) : It x y = some (decide (x < y)) := by
  unfold It II
  simp
theorem QZ {l : List Int} (hs : l.Pairwise (· ≤ ·)) (hl : l.length ≤ 1000) : ∀ (k fu : Nat), k < fu → k < l.length ∨ k = 0 → BI l fu (k : Int) = some true
  | _, 0, h, _ => absurd h (Nat.not_lt_zero _)
  | 0, fu + 1, _, _ => by
    unfold BI
    rw [if_neg (by omega)]; rfl
  | k + 1, fu + 1, h, hk => by
    have aa : k + 1 < l.length := by omega
    have e : ∀ j (hj : j < l.length), l.getD j 0 = l[j] := fun j hj => by
      rw [List.getD_eq_getElem?_getD, List.getElem?_eq_getElem hj]; rfl
    have ab := List.pairwise_iff_getElem.1 hs k (k + 1) (by omega) aa (by omega)
    unfold BI
    rw [if_pos (by omega), Y5 _ aa, CN (A9 (by omega)), show ((k + 1 : Nat) : Int) - 1 = (k : Int) by omega, Y5 _ (by omega), Wv, AJ, e _ aa, e _ (by omega), if_neg (by rw [decide_eq_true_iff]; omega), CN (A9 (by omega))]
    exact QZ hs hl k fu (by omega) (by omega)
theorem T9 {l : List Int} (hs : l.Pairwise (· ≤ ·)) (hl : l.length ≤ 1000) : Dm l = some true := by
  unfold Dm
  rw [CN (A9 (by omega))]
  by_cases h0 : l.length = 0
  · rw [h0]
    show BI l (18446744073709551615 + 1) (-1) = some true
    unfold BI
    rw [if_neg (by decide)]; rfl
  · rw [show (l.length : Int) - 1 = ((l.length - 1 : Nat) : Int) by omega]
    exact QZ hs hl (l.length - 1) FU (by unfold FU; omega) (by omega)
def Lj (k q : Int) (l : List Int) : List (Int × Int × Int) := l.map fun s => (k, s, q)
def LK (hs : List (List (List Int))) (rs : List Int) (cs : List (Int × Int × Int)) (k q : Int) (H : List Int) (l : List Int) : Prop := ∀ c, Ej none rs c → ∀ x ∈ H, CB hs (cs ++ Lj k q l) c x q = true
theorem LK.mono {hs : List (List (List Int))} {rs : List Int} {cs : List (Int × Int × Int)} {k q : Int} {H l l2 : List Int} (h : LK hs rs cs k q H l) (hl : ∀ s ∈ l, s ∈ l2) : LK hs rs cs k q H l2 := fun c hc x hx => by
  have h1 := h c hc x hx
  rw [QM] at h1 ⊢
  rw [Bool.or_eq_true] at h1 ⊢
  refine h1.imp id fun h2 => ?_
  unfold CB Lj at h2 ⊢
  rw [List.any_eq_true] at h2 ⊢
  obtain ⟨y, hy, h3⟩ := h2
  obtain ⟨s, hs, rfl⟩ := List.mem_map.1 hy
  exact ⟨_, List.mem_map.2 ⟨s, hl s hs, rfl⟩, h3⟩
section
variable {n n2 : Int} {hs : List (List (List Int))} {rs : List Int} {cs : List (Int × Int × Int)} {k q : Int} {H : List Int}
theorem Jg.Lj (h : Jg n n2 hs rs cs) (hk : 0 ≤ k ∧ k < (rs.length : Int)) (hq : 0 ≤ q ∧ q < n2) {l : List Int} (hl : cs.length + l.length ≤ 12) (aa : ∀ s ∈ l, 0 ≤ s ∧ s < (hs.length : Int)) : Jg n n2 hs rs (cs ++ Lj k q l) :=
  h.more (by rw [show (Bk.Lj k q l).length = l.length from List.length_map ..]; exact hl) fun c hc => by
    obtain ⟨s, hs, rfl⟩ := List.mem_map.1 hc
    exact ⟨hk, aa s hs, hq⟩
theorem TX : ∀ (l : List Int) (cs : List (Int × Int × Int)), cs.length + l.length ≤ 1000 → De k q l cs = some (cs ++ Lj k q l)
  | [], cs, _ => by unfold De Lj; rw [List.map_nil, List.append_nil]
  | s :: l, cs, h => by
    rw [List.length_cons] at h
    unfold De
    rw [Kv (by simp; omega), TX l _ (by simp; omega), List.append_assoc]; rfl
theorem Xj (h : Jg n n2 hs rs cs) (hk : 0 ≤ k ∧ k < (rs.length : Int)) (hq : 0 ≤ q ∧ q < n2) (hH : ∀ x ∈ H, 0 ≤ x ∧ x < n) {l : List Int} (hl : cs.length + l.length ≤ 12) (ae : ∀ s ∈ l, 0 ≤ s ∧ s < (hs.length : Int)) {out : List Int} {found : Bool} :
    (LK hs rs cs k q H l → (b1 (BZ cs) fun l2 => b1 (De k q l l2) fun aa => b1 (Dg n n2 hs rs aa) fun l4 => b1 (ET (fun ab : List Bool => D0 ab H q) l4) fun l5 => if l5 = [] then some (true, l, true) else some (found, out, found)) = some (true, l, true)) ∧
    (¬ LK hs rs cs k q H l → (b1 (BZ cs) fun l2 => b1 (De k q l l2) fun aa => b1 (Dg n n2 hs rs aa) fun l4 => b1 (ET (fun ab : List Bool => D0 ab H q) l4) fun l5 => if l5 = [] then some (true, l, true) else some (found, out, found)) = some (found, out, found)) := by
  have hu := h.Lj hk hq hl ae
  have hc := h.hc; have hn := h.hn; have MM := h.MM
  obtain ⟨L, e1, g0, g1, g2⟩ := QL hu
  have hL : KX hs rs (cs ++ Lj k q l) L := ⟨g0, g1, g2⟩
  have ad : ∀ e ∈ L, (fun ab : List Bool => D0 ab H q) e.1 = some (!H.all fun x => e.1.getD (x * 4 + q).toNat false) ∧ e.2 ≠ [] := fun e he => by
    have af := hL.Wn hu e he
    refine ⟨?_, Wr h (hL.of e he).1⟩
    show D0 e.1 H q = _
    unfold D0
    rw [Rk (g := fun x => e.1.getD (x * 4 + q).toNat false) (fun x hx => by
      have := hH x hx
      unfold GX
      rw [CN (by omega), CN (by omega), U9 false _ (by omega) (by omega)]), AJ]
  rw [VD (by omega), AJ, TX l cs (by omega), AJ, e1, AJ]
  unfold ET
  rcases SB (met := fun ab : List Bool => D0 ab H q) (P := fun e => !H.all fun x => e.1.getD (x * 4 + q).toNat false) L ad with ⟨e, he, h3, h4⟩ | ⟨h3, h4⟩
  · rw [h4, AJ, if_neg (ad e he).2]
    refine ⟨fun hE => ?_, fun _ => rfl⟩
    exfalso
    have h5 : (H.all fun x => e.1.getD (x * 4 + q).toNat false) = true := by
      rw [List.all_eq_true]
      intro x hx
      have := hH x hx
      rw [hL.get hu (by omega) (by omega) e he]
      exact hE e.2 (hL.of e he).1 x hx
    rw [h5] at h3; cases h3
  · rw [h4, AJ, if_pos rfl]
    refine ⟨fun _ => rfl, fun hE => absurd (fun c hc x hx => ?_) hE⟩
    have := hH x hx
    obtain ⟨e, he, h5⟩ := hL.YA hu (x := x) (q := q) (by omega) (by omega) hc
    rw [← h5]
    have h6 := h3 e he
    rw [Bool.not_eq_false'] at h6
    exact List.all_eq_true.1 h6 x hx
def Pv (l : List Nat) : List Int := l.map Int.ofNat
def M7 (_S : Nat) (P : List Nat → Bool) (pre : List Nat) (L : List (List Nat)) (out : List Int) : Bool × List Int × Bool := match L.find? (fun c => P (pre ++ c)) with
  | some c => (true, Pv (pre ++ c), true)
  | none => (false, out, false)
theorem Vw {S : Nat} {P : List Nat → Bool} {pre : List Nat} {s : Nat} {A B : List (List Nat)} {out : List Int} : M7 S P pre (A.map (s :: ·) ++ B) out = match A.find? (fun c => P ((pre ++ [s]) ++ c)) with | some c => (true, Pv ((pre ++ [s]) ++ c), true) | none => M7 S P pre B out := by
  have e : ((fun c => P (pre ++ c)) ∘ fun c => s :: c) = fun c => P ((pre ++ [s]) ++ c) := funext fun c => by
    show P (pre ++ s :: c) = _
    rw [List.append_assoc]; rfl
  unfold M7
  rw [List.find?_append, List.find?_map, e]
  cases A.find? (fun c => P ((pre ++ [s]) ++ c)) with
  | some c =>
    show (true, Pv (pre ++ s :: c), true) = (true, Pv ((pre ++ [s]) ++ c), true)
    rw [List.append_assoc]; rfl
  | none => rfl
theorem UL (h : Jg n n2 hs rs cs) (ah : cs.length ≤ 6) (hk : 0 ≤ k ∧ k < (rs.length : Int)) (hq : 0 ≤ q ∧ q < n2) (hH : ∀ x ∈ H, 0 ≤ x ∧ x < n) {P : List Nat → Bool} (hP : ∀ l, P l = true ↔ LK hs rs cs k q H (Pv l)) {out : List Int} : ∀ (m fu f : Nat) (pre : List Nat), m < fu → f ≤ 10 → pre.length + m ≤ 4 → (∀ s ∈ pre, s < hs.length) → DI fu (Pv pre) (f : Int) (m : Int) n n2 hs rs cs k q H out false = some (M7 hs.length P pre (K0 hs.length m f) out)
  | _, 0, _, _, hf, _, _, _ => by omega
  | 0, fu + 1, f, pre, _, _, hp, ab => by
    have h1 := Xj h hk hq hH (l := Pv pre) (by rw [show (Pv pre).length = pre.length from List.length_map ..]; omega) (fun s hs => by
      obtain ⟨t, ht, rfl⟩ := List.mem_map.1 hs
      have := ab t ht
      exact ⟨by show 0 ≤ (t : Int); omega, by show (t : Int) < _; omega⟩) (out := out) (found := false)
    unfold DI IN M7 K0
    rw [if_pos (by rfl)]
    by_cases hE : P pre = true
    · rw [h1.1 ((hP pre).1 hE), List.find?_cons_of_pos (by rw [List.append_nil]; exact hE)]; simp
    · rw [h1.2 (fun e => hE ((hP pre).2 e)), List.find?_cons_of_neg (by rw [List.append_nil]; exact hE)]; rfl
  | m + 1, fu + 1, f, pre, hf, ai, hp, ab => by
    have hh := h.hh
    have hlen : (Pv pre).length = pre.length := List.length_map ..
    have key : ∀ (T0 s : Nat), s + T0 = max s hs.length → DB (Pv pre) ((m + 1 : Nat) : Int) n n2 hs rs cs k q H (DI fu) T0 (s : Int) out false = some (M7 hs.length P pre ((List.range' s T0).flatMap fun i => (K0 hs.length m (i + 1)).map (i :: ·)) out) := fun T0 => by
      induction T0 with
      | zero => intro s _; rfl
      | succ T0 ih =>
        intro s aj
        have ak : s < hs.length := by omega
        have e := UL h ah hk hq hH hP (out := out) m fu (s + 1) (pre ++ [s]) (by omega) (by omega) (by simp; omega) (fun t ht => by
          rcases List.mem_append.1 ht with ht | ht
          · exact ab t ht
          · rw [List.mem_singleton] at ht; omega)
        have et : Pv (pre ++ [s]) = Pv pre ++ [(s : Int)] := by unfold Pv; rw [List.map_append]; rfl
        rw [et] at e
        unfold DB
        have ae : ∀ r : Bool × List Int × Bool, M7 hs.length P (pre ++ [s]) (K0 hs.length m (s + 1)) out = r → (gd (C9 (((m + 1 : Nat) : Int) - 1)) <| b1 (CZ (Pv pre)) fun l6 => ap l6 [(s : Int)] fun l7 => b3 (DI fu l7 ((s : Int) + 1) (((m + 1 : Nat) : Int) - 1) n n2 hs rs cs k q H out false) fun ok ad aa => if ok = true then some (true, ad, aa) else DB (Pv pre) ((m + 1 : Nat) : Int) n n2 hs rs cs k q H (DI fu) T0 ((s : Int) + 1) ad aa) = (if r.1 = true then some (true, r.2.1, r.2.2) else DB (Pv pre) ((m + 1 : Nat) : Int) n n2 hs rs cs k q H (DI fu) T0 ((s + 1 : Nat) : Int) r.2.1 r.2.2) := fun r hr => by
          rw [hr] at e
          rw [CN (A9 (by omega)), Q6 (by omega), AJ, Kv (by simp [hlen]; omega), show (s : Int) + 1 = ((s + 1 : Nat) : Int) by omega, show ((m + 1 : Nat) : Int) - 1 = (m : Int) by omega, e]
          rfl
        rw [List.range'_succ, List.flatMap_cons, Vw]
        cases af : (K0 hs.length m (s + 1)).find? (fun c => P ((pre ++ [s]) ++ c)) with
        | some c => exact (ae (true, Pv ((pre ++ [s]) ++ c), true) (by unfold M7; rw [af])).trans (if_pos rfl)
        | none => exact (ae (false, out, false) (by unfold M7; rw [af])).trans ((if_neg Bool.false_ne_true).trans (ih (s + 1) (by omega)))
    unfold DI IN Iv
    rw [if_neg (by omega), CN ⟨A9 (by omega), A9 (by omega)⟩]
    have e := key (hs.length - f) f (by omega)
    rw [show Int.toNat ((hs.length : Int) - (f : Int)) = hs.length - f by omega]
    exact e
def We (o : Option (List Nat)) : List Int × Bool := match o with
  | some c => (Pv c, true)
  | none => ([], false)
theorem Ti (h : Jg n n2 hs rs cs) (ab : cs.length ≤ 6) (hk : 0 ≤ k ∧ k < (rs.length : Int)) (hq : 0 ≤ q ∧ q < n2) (hH : ∀ x ∈ H, 0 ≤ x ∧ x < n) {P : List Nat → Bool} (hP : ∀ l, P l = true ↔ LK hs rs cs k q H (Pv l)) : ∀ (fu m : Nat), m + fu = hs.length + 1 → Fx n n2 hs rs cs q k H fu (m : Int) [] false = some (We (Lh hs.length P fu m))
  | 0, _, _ => rfl
  | fu + 1, m, hm => by
    have hh := h.hh
    have e := UL h ab hk hq hH hP (out := []) m FU 0 [] (by unfold FU; omega) (by omega) (by simp; omega) (fun _ h => nomatch h)
    have e' : DI FU [] 0 (m : Int) n n2 hs rs cs k q H [] false = some (M7 hs.length P [] (K0 hs.length m 0) []) := e
    unfold Fx Lh
    rw [e']
    unfold M7
    have ef : (fun c => P ([] ++ c)) = P := rfl
    rw [ef]
    cases hf : (K0 hs.length m 0).find? P with
    | some c => rfl
    | none =>
      show (b3 (some (false, [], false)) fun ae ad aa => _) = _
      rw [CP, if_neg (by decide), show (m : Int) + 1 = ((m + 1 : Nat) : Int) by omega]
      exact Ti h ab hk hq hH hP fu (m + 1) (by omega)
theorem WV (h : Jg n n2 hs rs cs) (hex : ∃ c, Ej none rs c) (aa : cs.length ≤ 6) (hk : 0 ≤ k ∧ k < (rs.length : Int)) (hq : 0 ≤ q ∧ q < n2) (hd : H.Nodup) (hH : ∀ x ∈ H, 0 ≤ x ∧ x < n) {P : List Nat → Bool} (hP : ∀ l, P l = true ↔ LK hs rs cs k q H (Pv l)) :
    KM n n2 hs rs cs q k H = some (match Lh hs.length P (hs.length + 1) 0 with | some c => (Pv c, 0) | none => ([], 6)) := by
  have hh := h.hh
  obtain ⟨L, _, _, _, e1⟩ := SG h hex
  have e2 : Fx n n2 hs rs cs q k H (Int.toNat (((hs.length : Int) + 1) - 0)) 0 [] false = some (We (Lh hs.length P (hs.length + 1) 0)) := by
    rw [show Int.toNat (((hs.length : Int) + 1) - 0) = hs.length + 1 by omega]
    exact Ti h aa hk hq hH hP (hs.length + 1) 0 (by omega)
  unfold KM
  rw [Q3 h, AJ, if_neg (by decide), Pw h, AJ, decide_eq_true hq, if_neg (by decide), Va h, AJ, decide_eq_true hk, AJ, if_neg (by decide), R7 h hd hH, AJ, if_neg (by decide), e1, CP, if_neg (by decide), CN (A9 (by omega)), CN ⟨A9 (by omega), A9 (by omega)⟩, e2]
  cases Lh hs.length P (hs.length + 1) 0 with
  | some c => rfl
  | none => rfl
section
variable {metal : List Int}
structure Told (S : Nat) (P : List Nat → Bool) (l : List Int) (e : Int) : Prop where
  two : (e = 0 ∨ e = 6)
  some : e = 0 → ∃ d, l = Pv d ∧ Up S 0 d ∧ P d = true ∧ ∀ c, Up S 0 c → P c = true → d.length < c.length ∨ (d.length = c.length ∧ lex d c)
  none : e = 6 → l = [] ∧ ∀ c, Up S 0 c → P c = false
end
end
end Go.Proofs.YtfmapnhfamoecaaGreat.Bk
namespace Go.Proofs.YtfmapnhfamoecaaGreat.Bk
open Go.PL Rv
theorem Q0 : ∀ {a b c : List Int}, Vo a b < 0 → Vo b c < 0 → Vo a c < 0
  | [], [], _, h, _ => absurd h (show ¬ ((0 : Int) < 0) by decide)
  | [], _ :: _, [], _, h => absurd h (show ¬ ((1 : Int) < 0) by decide)
  | [], _ :: _, _ :: _, _, _ => (show ((-1 : Int) < 0) by decide)
  | _ :: _, [], _, h, _ => absurd h (show ¬ ((1 : Int) < 0) by decide)
  | _ :: _, _ :: _, [], _, h => absurd h (show ¬ ((1 : Int) < 0) by decide)
  | x :: a, y :: b, z :: c, h1, h2 => by
    unfold Vo at h1 h2 ⊢
    by_cases e1 : x < y
    · by_cases e2 : y < z
      · rw [if_pos (by omega)]; decide
      · rw [if_neg e2] at h2
        by_cases e3 : z < y
        · rw [if_pos e3] at h2; omega
        · rw [if_pos (by omega)]; decide
    · rw [if_neg e1] at h1
      by_cases e2 : y < x
      · rw [if_pos e2] at h1; omega
      · rw [if_neg e2] at h1
        by_cases e3 : y < z
        · rw [if_pos (by omega)]; decide
        · rw [if_neg e3] at h2
          by_cases e4 : z < y
          · rw [if_pos e4] at h2; omega
          · rw [if_neg e4] at h2
            rw [if_neg (by omega), if_neg (by omega)]
            exact Q0 h1 h2
def Zo (a b : List Int) : Prop := a.length < b.length ∨ (a.length = b.length ∧ Vo a b < 0)
theorem Zo.trans {a b c : List Int} (h1 : Zo a b) (h2 : Zo b c) : Zo a c := by
  rcases h1 with h1 | ⟨h1, g1⟩
  · rcases h2 with h2 | ⟨h2, _⟩
    · exact .inl (by omega)
    · exact .inl (by omega)
  · rcases h2 with h2 | ⟨h2, g2⟩
    · exact .inl (by omega)
    · exact .inr ⟨by omega, Q0 g1 g2⟩
section
variable {n n2 : Int} {hs : List (List (List Int))} {rs : List Int} {cs : List (Int × Int × Int)}
def Go (hs : List (List (List Int))) (rs : List Int) (cs : List (Int × Int × Int)) (l : List Cp) : Prop := ∃ c, Ej none rs c ∧ ∀ p ∈ l, WL hs cs c p = true
theorem Go.sub {l l2 : List Cp} (h : Go hs rs cs l) (aa : ∀ p ∈ l2, p ∈ l) : Go hs rs cs l2 := by
  obtain ⟨c, hc, h1⟩ := h
  exact ⟨c, hc, fun p hm => h1 p (aa p hm)⟩
section
variable {metal : List Int}
end
end
end Go.Proofs.YtfmapnhfamoecaaGreat.Bk
namespace Go.Proofs.YtfmapnhfamoecaaGreat.Bk
open Go.PL Rv
theorem Oj (n lo hi : Int) : IY n lo hi = some (decide (lo ≤ n ∧ n ≤ hi)) := by
  unfold IY
  by_cases h1 : lo ≤ n
  · rw [if_pos h1]; simp [h1]
  · rw [if_neg h1]; simp [h1]
theorem P7 {f : List Int → Option Bool} {g : List Int → Bool} : ∀ (l : List (List Int)) (k : Int), 0 ≤ k → (∀ x ∈ l, f x = some (g x)) → ∃ n, Ch f l k = some n ∧ (0 ≤ n ↔ l.any g = true)
  | [], k, _, _ => ⟨-1, rfl, by simp⟩
  | x :: l, k, hk, h => by
    unfold Ch
    rw [h x (by simp), AJ]
    by_cases hx : g x = true
    · exact ⟨k, by rw [if_pos hx], by simp [hx, hk]⟩
    · obtain ⟨n, h1, h2⟩ := P7 l (k + 1) (by omega) (fun y hy => h y (by simp [hy]))
      exact ⟨n, by rw [if_neg hx]; exact h1, by rw [h2]; simp [hx]⟩
theorem V1 {f : List Int → Option Bool} {g : List Int → Bool} {l : List (List Int)} (h : ∀ x ∈ l, f x = some (g x)) : CG l f = some (l.any g) := by
  unfold CG EO
  obtain ⟨n, h1, h2⟩ := P7 l 0 (Int.le_refl _) h
  rw [h1, AJ, J3 h2, Bool.decide_eq_true]
theorem Ri {f : List Int → Option Bool} {g : List Int → Bool} {l : List (List Int)} (h : ∀ x ∈ l, f x = some (g x)) : E3 l f = some (l.all g) := by
  unfold E3
  rw [V1 (g := fun x => !g x) (fun x hx => by unfold G1; rw [h x hx, AJ]), AJ]
  simp [List.all_eq_not_any_not]
theorem Uh {f : Int → Option Bool} {g : Int → Bool} {l : List Int} (h : ∀ x ∈ l, f x = some (g x)) : HA l f = some (l.all g) := by
  unfold HA
  rw [Qb (g := fun x => !g x) (fun x hx => by unfold Gl; rw [h x hx, AJ]), AJ]
  simp [List.all_eq_not_any_not]
theorem P2 {f : (Int × Int) → Option Bool} {g : (Int × Int) → Bool} : ∀ (l : List (Int × Int)) (k : Int), 0 ≤ k → (∀ x ∈ l, f x = some (g x)) → ∃ n, BF f l k = some n ∧ (0 ≤ n ↔ l.any g = true)
  | [], k, _, _ => ⟨-1, rfl, by simp⟩
  | x :: l, k, hk, h => by
    unfold BF
    rw [show (x.1, x.2) = x from rfl, h x (by simp), AJ]
    by_cases hx : g x = true
    · exact ⟨k, by rw [if_pos hx], by simp [hx, hk]⟩
    · obtain ⟨n, h1, h2⟩ := P2 l (k + 1) (by omega) (fun y hy => h y (by simp [hy]))
      exact ⟨n, by rw [if_neg hx]; exact h1, by rw [h2]; simp [hx]⟩
theorem Wk {f : (Int × Int) → Option Bool} {g : (Int × Int) → Bool} {l : List (Int × Int)} (h : ∀ x ∈ l, f x = some (g x)) : B8 l f = some (l.any g) := by
  unfold B8 C8
  obtain ⟨n, h1, h2⟩ := P2 l 0 (Int.le_refl _) h
  rw [h1, AJ, J3 h2, Bool.decide_eq_true]
theorem Ug {f : (Int × Int) → Option Bool} {g : (Int × Int) → Bool} {l : List (Int × Int)} (h : ∀ x ∈ l, f x = some (g x)) : GJ l f = some (l.all g) := by
  unfold GJ
  rw [Wk (g := fun x => !g x) (fun x hx => by unfold GV; rw [show (x.1, x.2) = x from rfl, h x hx, AJ]), AJ]
  simp [List.all_eq_not_any_not]
def NT : List (Int × Bool) := [(-1, false), (0, false)]
structure LI (n : Int) (st : List (List Int)) (cr : List (Int × Int)) : Prop where
  hn : 1 ≤ n ∧ n ≤ 6
  hs : 1 ≤ st.length ∧ st.length ≤ 6
  one : ∀ l ∈ st, l.length ≤ 1 ∧ ∀ x ∈ l, 0 ≤ x ∧ x < n
  hc : cr.length ≤ 16
  cc : ∀ c ∈ cr, (c.1 = 0 ∨ c.1 = 1) ∧ 0 ≤ c.2 ∧ c.2 < (st.length : Int)
section
variable {n : Int} {st : List (List Int)} {cr : List (Int × Int)}
theorem Vp (h : LI n st cr) {x : Int} (hx : 0 ≤ x ∧ x < n) : Ey n [] NT st x = some true := by
  have hn := h.hn
  unfold Ey
  rw [CN (A9 (by omega)), Oj, AJ, decide_eq_true (by omega)]
theorem T8 {l : List Int} (h : l.length ≤ 1) : Hr l = some true := by
  have e1 : Dm l = some true := T9 (by
    match l, h with
    | [], _ => exact .nil
    | [x], _ => exact List.pairwise_singleton ..) (by omega)
  have e2 : Ep l = some l := by unfold Ep; rw [if_pos (by omega)]
  unfold Hr
  rw [e1, AJ, if_pos rfl, Q6 (by omega), AJ, e2, AJ, decide_eq_true rfl]
theorem Ys : D9 NT NT 0 = some 0 := by decide +kernel
theorem VP (h : LI n st cr) : KJ n [] NT st = some 0 := by
  have hn := h.hn; have hs := h.hs
  have e1 : E3 st (fun aa : List Int => Iq aa n [] NT st) = some true := by
    rw [Ri (g := fun _ => true) (fun l hl => by
      unfold Iq
      rw [Uh (g := fun _ => true) (fun x hx => Vp h ((h.one l hl).2 x hx)), AJ]
      congr 1; rw [List.all_eq_true]; exact fun _ _ => rfl)]
    congr 1; rw [List.all_eq_true]; exact fun _ _ => rfl
  have e2 : E3 st (fun aa : List Int => Hr aa) = some true := by
    rw [Ri (g := fun _ => true) (fun l hl => T8 (h.one l hl).1)]
    congr 1; rw [List.all_eq_true]; exact fun _ _ => rfl
  have e3 : Iu n [] NT st = some 0 := rfl
  have e4 : HT n [] NT st = some 0 := Ys
  unfold KJ
  rw [Oj, AJ, decide_eq_true (by omega), if_neg (by decide), if_neg (by simp), Oj, AJ, decide_eq_true (by decide), if_neg (by decide), Oj, AJ, decide_eq_true (by omega), AJ, if_neg (by decide), e3, AJ, if_neg (by decide), e4, AJ, if_neg (by decide), e1, AJ, if_neg (by decide), e2, AJ, if_neg (by decide)]
def F8 : List Int := List.replicate 8 0
def L8 : List Int := [1, 1, 0, 0, 0, 0, 0, 0]
theorem Zw : FE NT 0 (List.replicate 8 0) = some F8 := by decide +kernel
theorem Zr : G5 NT F8 NT 0 (List.replicate 8 0) = some L8 := by decide +kernel
theorem Ui (h : LI n st cr) : J1 n [] NT st = some (n, [], NT, st, [], [], F8, L8, 0) := by
  unfold J1
  rw [VP h, AJ, CN (by decide), show GW [] [] = some [] from rfl, AJ, Zw, AJ, Zr, AJ]
theorem Vu (h : LI n st cr) : KI n [] NT st cr = some (some (n, [], NT, st, cr, [], F8, L8), 0) := by
  have hs := h.hs; have hc := h.hc
  have e : GJ cr (fun aa : Int × Int => HK n [] NT st [] [] F8 L8 aa.1 aa.2) = some true := by
    rw [Ug (g := fun _ => true) (fun c hm => by
      have h1 := h.cc c hm
      unfold HK Ip IX
      rw [CN (A9 (by decide)), Oj, AJ, decide_eq_true (by rw [show (NT.length : Int) - 1 = 1 from rfl]; omega), AJ, if_pos rfl, CN (A9 (by omega)), Oj, AJ, decide_eq_true (by omega), AJ])]
    congr 1; rw [List.all_eq_true]; exact fun _ _ => rfl
  unfold KI
  rw [Ui h, XJ, CN (by decide), CN (by omega), e, AJ, CN (by decide)]
theorem Um (h : LI n st cr) : J6 n [] NT st cr 0 = some (some (n, [], NT, st, cr, [], F8, L8), 0) := by
  unfold J6
  rw [Vu h, DD, if_pos rfl, Oj, AJ, decide_eq_true (by decide), AJ, if_neg (by decide), AJ, CN (by decide)]
def Y8 : List Int := List.replicate 80 (-1)
theorem Zh : EI (Int.toNat (10 - 0)) 0 (List.replicate 80 0) = some Y8 := by decide +kernel
theorem XB {j : Nat} (h : j < 80) : Y8.getD j 0 = -1 := by
  unfold Y8
  rw [List.getD_eq_getElem?_getD, List.getElem?_replicate, if_pos h]; rfl
def hv (st : List (List Int)) (h : Int) : List (Int × Int) → Int → Int
  | [], a => a
  | c :: l, a => hv st h l (if h ∈ st.getD c.2.toNat [] then (if c.1 > a then c.1 else a) else a)
theorem QA {x : Int} : ∀ (l : List (Int × Int)) (a : Int), (∀ c ∈ l, c.1 = 0 ∨ c.1 = 1) → (a = -1 ∨ a = 0 ∨ a = 1) → (hv st x l a = 0 ↔ (a ≠ 1 ∧ ¬ ∃ c ∈ l, c.1 = 1 ∧ x ∈ st.getD c.2.toNat []) ∧ (a = 0 ∨ ∃ c ∈ l, c.1 = 0 ∧ x ∈ st.getD c.2.toNat []))
  | [], a, _, ha => by
    unfold hv
    constructor
    · intro h; exact ⟨⟨by omega, fun ⟨c, hc, _⟩ => nomatch hc⟩, .inl h⟩
    · rintro ⟨_, h | ⟨c, hc, _⟩⟩
      · exact h
      · cases hc
  | c :: l, a, hl, ha => by
    have h1 := hl c (by simp)
    unfold hv
    by_cases e : x ∈ st.getD c.2.toNat []
    · rw [if_pos e, QA l _ (fun d hd => hl d (by simp [hd])) (by split <;> omega)]
      constructor
      · rintro ⟨⟨h2, h3⟩, h4⟩
        have h5 : c.1 ≠ 1 ∧ a ≠ 1 := by
          constructor
          · intro h6; rw [h6] at h2; split at h2 <;> omega
          · intro h6; rw [h6] at h2; split at h2 <;> omega
        refine ⟨⟨h5.2, ?_⟩, ?_⟩
        · rintro ⟨d, hd, h6, h7⟩
          rcases List.mem_cons.1 hd with rfl | hd
          · exact h5.1 h6
          · exact h3 ⟨d, hd, h6, h7⟩
        · exact .inr ⟨c, by simp, h1.resolve_right h5.1, e⟩
      · rintro ⟨⟨h2, h3⟩, h4⟩
        have h5 : c.1 = 0 := by
          rcases h1 with h1 | h1
          · exact h1
          · exact absurd ⟨c, by simp, h1, e⟩ h3
        refine ⟨⟨by rw [h5]; split <;> omega, ?_⟩, .inl (by rw [h5]; split <;> omega)⟩
        rintro ⟨d, hd, h6, h7⟩
        exact h3 ⟨d, by simp [hd], h6, h7⟩
    · rw [if_neg e, QA l _ (fun d hd => hl d (by simp [hd])) ha]
      have e1 : ∀ q : Int, (∃ d ∈ c :: l, d.1 = q ∧ x ∈ st.getD d.2.toNat []) ↔ ∃ d ∈ l, d.1 = q ∧ x ∈ st.getD d.2.toNat [] := fun q => by
        constructor
        · rintro ⟨d, hd, h6, h7⟩
          rcases List.mem_cons.1 hd with rfl | hd
          · exact absurd h7 e
          · exact ⟨d, hd, h6, h7⟩
        · rintro ⟨d, hd, h6, h7⟩; exact ⟨d, by simp [hd], h6, h7⟩
      rw [e1, e1]
theorem VL {s x : Int} (hs : 0 ≤ s ∧ s < (st.length : Int)) : Hx n [] NT st cr [] F8 L8 x s = some (decide (x ∈ st.getD s.toNat [])) := by
  unfold Hx
  rw [U9 [] _ hs.1 hs.2, contains_eq, AJ]
theorem WY {β : Type} {q : Int} (hq : q = 0 ∨ q = 1) (f : Int → Option β) : ix F8 q f = f 0 := by
  rcases hq with rfl | rfl <;> rfl
theorem W7 (h : LI n st cr) {k : Nat} (hk : k < 6) : ∀ (l : List (Int × Int)) (out : List Int), (∀ c ∈ l, c ∈ cr) → out.length = 80 →
    ∃ R, Du n [] NT st cr [] F8 L8 (k : Int) l out = some R ∧ R.length = 80 ∧ R.getD (k * 8) 0 = hv st (k : Int) l (out.getD (k * 8) 0) ∧ ∀ j, j ≠ k * 8 → R.getD j 0 = out.getD j 0
  | [], out, _, ho => ⟨out, rfl, ho, rfl, fun _ _ => rfl⟩
  | c :: l, out, hl, ho => by
    have h1 := h.cc c (hl c (by simp))
    have e8 : ((k : Int) * 8 + 0).toNat = k * 8 := by omega
    unfold Du
    rw [VL h1.2, AJ]
    by_cases e : (k : Int) ∈ st.getD c.2.toNat []
    · rw [decide_eq_true e, if_pos rfl, WY h1.1, CN (by omega), CN (by omega), U9 0 _ (by omega) (by omega), CN (by omega), show ∀ x : Int, K1 x [c.1] = some (if c.1 > x then c.1 else x) from fun _ => rfl, AJ, CN (by omega), QO, e8]
      obtain ⟨R, g1, g2, g3, g4⟩ := W7 h hk l (out.set (k * 8) (if c.1 > out.getD (k * 8) 0 then c.1 else out.getD (k * 8) 0)) (fun d hd => hl d (by simp [hd])) (by rw [List.length_set]; exact ho)
      refine ⟨R, g1, g2, ?_, fun j hj => ?_⟩
      · rw [g3, Ee (by omega), if_pos rfl]
        conv => rhs; unfold hv
        rw [if_pos e]
      · rw [g4 j hj, Ee (by omega), if_neg (fun e => hj e.symm)]
    · rw [decide_eq_false e, if_neg (by decide)]
      obtain ⟨R, g1, g2, g3, g4⟩ := W7 h hk l out (fun d hd => hl d (by simp [hd])) ho
      refine ⟨R, g1, g2, ?_, g4⟩
      rw [g3]
      conv => rhs; unfold hv
      rw [if_neg e]
theorem XP (h : LI n st cr) {N : Nat} (hN : N ≤ 6) : ∀ (fu k : Nat) (out : List Int), k + fu = N → out.length = 80 → (∀ j, k ≤ j → j < N → out.getD (j * 8) 0 = -1) →
    ∃ R, Dt n [] NT st cr [] F8 L8 fu (k : Int) out = some R ∧ R.length = 80 ∧ (∀ j, j < k → R.getD (j * 8) 0 = out.getD (j * 8) 0) ∧ ∀ j, k ≤ j → j < N → R.getD (j * 8) 0 = hv st (j : Int) cr (-1)
  | 0, k, out, hk, ho, _ => ⟨out, rfl, ho, fun _ _ => rfl, fun j h1 h2 => by omega⟩
  | fu + 1, k, out, hk, ho, hj => by
    obtain ⟨R1, g1, g2, g3, g4⟩ := W7 h (k := k) (by omega) cr out (fun _ h => h) ho
    obtain ⟨R, f1, f2, f3, f4⟩ := XP h hN fu (k + 1) R1 (by omega) g2 (fun j h1 h2 => by rw [g4 _ (by omega)]; exact hj j (by omega) h2)
    refine ⟨R, ?_, f2, fun j h1 => by rw [f3 j (by omega), g4 _ (by omega)], fun j h1 h2 => ?_⟩
    · unfold Dt
      rw [g1, AJ, show (k : Int) + 1 = ((k + 1 : Nat) : Int) by omega]
      exact f1
    · by_cases e : j = k
      · subst e; rw [f3 j (by omega), g3, hj j (Nat.le_refl _) h2]
      · exact f4 j (by omega) h2
theorem VG (h : LI n st cr) : ∃ R, Ht n [] NT st cr [] F8 L8 0 = some R ∧ R.length = 80 ∧ ∀ j : Nat, (j : Int) < n → R.getD (j * 8) 0 = hv st (j : Int) cr (-1) := by
  have hn := h.hn
  obtain ⟨N, rfl⟩ := Int.eq_ofNat_of_zero_le (show 0 ≤ n by omega)
  obtain ⟨R, g1, g2, _, g4⟩ := XP h (N := N) (by omega) N 0 Y8 (by omega) rfl (fun j _ h2 => XB (by omega))
  refine ⟨R, ?_, g2, fun j hj => g4 j (Nat.zero_le _) (by omega)⟩
  have aa : Dt (N : Int) [] NT st cr [] F8 L8 (Int.toNat ((N : Int) - 0)) 0 Y8 = some R := by
    rw [show Int.toNat ((N : Int) - 0) = N by omega]; exact g1
  have e2 : FM 0 FU = some () := by decide +kernel
  unfold Ht IW
  rw [CN ⟨A9 (by omega), A9 (by omega)⟩, Zh, AJ, CN ⟨A9 (by omega), A9 (by omega)⟩, aa, AJ, AJ, e2, XI]
theorem Yl {now : List Int} (hl : now.length = 80) {k : Nat} (hk : k < 6) {out : List (Int × Int)} (ho : out.length ≤ 1000) : CO F8 L8 now (k : Int) NT 0 out = some (if now.getD (k * 8) 0 = 0 then out ++ [((k : Int), 0)] else out) := by
  have e8 : ((k : Int) * 8 + 0).toNat = k * 8 := by omega
  have s2 : ∀ o : List (Int × Int), CO F8 L8 now (k : Int) [(0, false)] 1 o = some o := fun o => by
    unfold CO
    rw [WY (.inr rfl), CN (by omega), CN (by omega), U9 0 _ (by omega) (by omega), e8]
    have e : (if now.getD (k * 8) 0 = 1 then ix L8 1 fun x4 => some (decide (x4 ≠ 1)) else some false) = some false := by
      split <;> rfl
    rw [e, AJ, if_neg (by decide)]
    rfl
  unfold NT CO
  rw [WY (.inl rfl), CN (by omega), CN (by omega), U9 0 _ (by omega) (by omega), e8]
  by_cases e : now.getD (k * 8) 0 = 0
  · have e2 : (ix L8 0 fun x4 => some (decide (x4 ≠ 0))) = some true := rfl
    rw [if_pos e, if_pos e, e2, AJ, if_pos rfl, Kv (by simp; omega)]
    exact s2 _
  · rw [if_neg e, if_neg e, AJ, if_neg (by decide)]
    exact s2 _
theorem Wy {now : List Int} (hl : now.length = 80) {N : Nat} (hN : N ≤ 6) : ∀ (fu k : Nat) (out : List (Int × Int)), k + fu = N → out.length ≤ k → ∃ R, DT NT F8 L8 now fu (k : Int) out = some R ∧ ∀ j : Nat, (((j : Int), (0 : Int)) ∈ R ↔ ((j : Int), (0 : Int)) ∈ out ∨ (k ≤ j ∧ j < N ∧ now.getD (j * 8) 0 = 0))
  | 0, k, out, hk, _ => ⟨out, rfl, fun j => by constructor; exact .inl; rintro (h | h); exact h; omega⟩
  | fu + 1, k, out, hk, ho => by
    have hlen : (if now.getD (k * 8) 0 = 0 then out ++ [((k : Int), 0)] else out).length ≤ k + 1 := by
      split
      · rw [List.length_append, List.length_singleton]; omega
      · omega
    obtain ⟨R, g1, g2⟩ := Wy hl hN fu (k + 1) (if now.getD (k * 8) 0 = 0 then out ++ [((k : Int), 0)] else out) (by omega) hlen
    refine ⟨R, ?_, fun j => ?_⟩
    · unfold DT
      rw [Yl hl (by omega) (by omega), AJ, show (k : Int) + 1 = ((k + 1 : Nat) : Int) by omega]
      exact g1
    · rw [g2 j]
      by_cases e : now.getD (k * 8) 0 = 0
      · rw [if_pos e, List.mem_append, List.mem_singleton]
        constructor
        · rintro ((h | h) | ⟨h1, h2, h3⟩)
          · exact .inl h
          · have h9 : (j : Int) = (k : Int) := congrArg Prod.fst h
            have h9 : j = k := by omega
            subst h9; exact .inr ⟨Nat.le_refl _, by omega, e⟩
          · exact .inr ⟨by omega, h2, h3⟩
        · rintro (h | ⟨h1, h2, h3⟩)
          · exact .inl (.inl h)
          · by_cases e2 : j = k
            · subst e2; exact .inl (.inr rfl)
            · exact .inr ⟨by omega, h2, h3⟩
      · rw [if_neg e]
        constructor
        · rintro (h | ⟨h1, h2, h3⟩)
          · exact .inl h
          · exact .inr ⟨by omega, h2, h3⟩
        · rintro (h | ⟨h1, h2, h3⟩)
          · exact .inl h
          · refine .inr ⟨?_, h2, h3⟩
            rcases Nat.eq_or_lt_of_le h1 with h4 | h4
            · subst h4; exact absurd h3 e
            · exact h4
theorem Wb (h : LI n st cr) : ∃ R, JW n [] NT st cr 0 = some (R, 0) ∧ ∀ j : Nat, (j : Int) < n → (((j : Int), (0 : Int)) ∈ R ↔ (∃ c ∈ cr, c.1 = 0 ∧ (j : Int) ∈ st.getD c.2.toNat []) ∧ ¬ ∃ c ∈ cr, c.1 = 1 ∧ (j : Int) ∈ st.getD c.2.toNat []) := by
  have hn := h.hn
  obtain ⟨now, e1, hl, hg⟩ := VG h
  have ⟨N, hN⟩ := Int.eq_ofNat_of_zero_le (show 0 ≤ n by omega)
  obtain ⟨R, e2, hR⟩ := Wy hl (N := N) (by omega) N 0 [] (by omega) (Nat.le_refl _)
  refine ⟨R, ?_, fun j hj => ?_⟩
  · have aa : DT NT F8 L8 now (Int.toNat (n - 0)) 0 [] = some R := by
      rw [show Int.toNat (n - 0) = N by omega]; exact e2
    unfold JW JD
    rw [Um h, DD, CN (by decide), U6, e1, AJ, CN ⟨A9 (by omega), A9 (by omega)⟩, aa, AJ, AJ]
  · rw [hR j]
    constructor
    · rintro (h0 | ⟨_, _, h3⟩)
      · cases h0
      · rw [hg j hj] at h3
        obtain ⟨⟨_, h4⟩, h5⟩ := (QA cr (-1) (fun c hc => (h.cc c hc).1) (.inl rfl)).1 h3
        exact ⟨h5.resolve_left (by decide), h4⟩
    · rintro ⟨h4, h5⟩
      refine .inr ⟨Nat.zero_le _, by omega, ?_⟩
      rw [hg j hj]
      exact (QA cr (-1) (fun c hc => (h.cc c hc).1) (.inl rfl)).2 ⟨⟨by decide, h5⟩, .inr h4⟩
end
end Go.Proofs.YtfmapnhfamoecaaGreat.Bk
namespace Go.Proofs.YtfmapnhfamoecaaGreat.Bk
open Go.PL Rv
theorem R8 : HB = some true := by decide +kernel
theorem Mq {a : List Bool} {k : Int} : ∀ (fu : Nat) (q : Int) (out R : List (List Int)), Dd a k fu q out = some R → ∀ j, (R.getD j []).length ≤ (out.getD j []).length + fu
  | 0, q, out, R, h, j => by
    have h : some out = some R := h
    cases h; omega
  | fu + 1, q, out, R, h, j => by
    unfold Dd at h
    obtain ⟨_, h⟩ := A1 h
    obtain ⟨_, h⟩ := A1 h
    obtain ⟨x, _, _, h⟩ := Bx h
    by_cases e : x = true
    · rw [if_pos e] at h
      obtain ⟨row, gi, aa, h⟩ := Bx h
      obtain ⟨zs, hz, _, h⟩ := GM h
      obtain ⟨o, ho, h⟩ := CH h
      have ih := Mq fu _ _ _ h j
      rw [ho, Ee (by omega)] at ih
      by_cases e2 : k.toNat = j
      · subst e2
        rw [if_pos rfl, hz, List.length_append, List.length_singleton] at ih
        have h9 : out.getD k.toNat [] = row := by rw [List.getD_eq_getElem?_getD, aa]; rfl
        rw [h9]; omega
      · rw [if_neg e2] at ih; omega
    · rw [if_neg e] at h
      have ih := Mq fu _ _ _ h j
      omega
theorem LN {a : List Bool} {k : Nat} : ∀ (fu : Nat) (q : Int) (out R : List (List Int)), Dd a (k : Int) fu q out = some R → ∀ j, j ≠ k → R.getD j [] = out.getD j []
  | 0, q, out, R, h, j, _ => by
    have h : some out = some R := h
    cases h; rfl
  | fu + 1, q, out, R, h, j, hj => by
    unfold Dd at h
    obtain ⟨_, h⟩ := A1 h
    obtain ⟨_, h⟩ := A1 h
    obtain ⟨x, _, _, h⟩ := Bx h
    by_cases e : x = true
    · rw [if_pos e] at h
      obtain ⟨row, gi, aa, h⟩ := Bx h
      obtain ⟨zs, hz, _, h⟩ := GM h
      obtain ⟨o, ho, h⟩ := CH h
      rw [LN fu _ _ _ h j hj, ho, Ee (by omega), if_neg (by omega)]
    · rw [if_neg e] at h
      exact LN fu _ _ _ h j hj
theorem OR {m : Int} {a : List Bool} : ∀ (fu : Nat) (k : Nat) (out R : List (List Int)), D1 m a fu (k : Int) out = some R → (∀ j, k ≤ j → out.getD j [] = []) → (∀ j, (out.getD j []).length ≤ (m - 0).toNat) → ∀ j, (R.getD j []).length ≤ (m - 0).toNat
  | 0, k, out, R, h, _, hb, j => by
    have h : some out = some R := h
    cases h; exact hb j
  | fu + 1, k, out, R, h, h0, hb, j => by
    unfold D1 at h
    obtain ⟨R1, h1, h⟩ := AG h
    obtain ⟨_, h1⟩ := A1 h1
    rw [show (k : Int) + 1 = ((k + 1 : Nat) : Int) by omega] at h
    have hk := LN _ _ _ _ h1
    refine OR fu (k + 1) R1 R h (fun j hj => ?_) (fun j => ?_) j
    · rw [hk j (by omega)]; exact h0 j (by omega)
    · by_cases e : j = k
      · have := Mq _ _ _ _ h1 j
        rw [h0 j (by omega)] at this
        simpa using this
      · rw [hk j e]; exact hb j
theorem T5 {n n2 : Int} {hs : List (List (List Int))} {rs : List Int} {cs : List (Int × Int × Int)} {c : List Int} {T : List (List Int)} (h : Hf n n2 hs rs cs c = some (T, 0)) (j : Nat) : (T.getD j []).length ≤ (n2 - 0).toNat := by
  unfold Hf at h
  obtain ⟨d, e, _, h⟩ := Es h
  by_cases e0 : e ≠ 0
  · rw [if_pos e0] at h
    have := congrArg Prod.fst (Option.some.inj h)
    have : ([] : List (List Int)) = T := this
    rw [← this]; simp
  · rw [if_neg e0] at h
    obtain ⟨_, _, _, _, _, _, h⟩ := Rd h
    obtain ⟨a, _, h⟩ := AG h
    obtain ⟨_, h⟩ := A1 h
    obtain ⟨l2, h2, h⟩ := CH h
    obtain ⟨out, h1, h⟩ := AG h
    obtain ⟨_, h1⟩ := A1 h1
    have := congrArg Prod.fst (Option.some.inj h)
    have : out = T := this
    rw [← this]
    have hz : ∀ j, l2.getD j [] = [] := fun j => by
      rw [h2, List.getD_eq_getElem?_getD, List.getElem?_replicate]; split <;> rfl
    exact OR _ 0 l2 out h1 (fun j _ => hz j) (fun j => by rw [hz j]; simp) j
section
variable {which n n2 : Int} {hs : List (List (List Int))} {rs : List Int} {cs : List (Int × Int × Int)} {V T : List (List Int)}
structure X1 (T : List (List Int)) (k : Nat) (st : List (List Int)) (cr : List (Int × Int)) : Prop where
  ls : st.length ≤ k
  one : ∀ l ∈ st, l.length ≤ 1 ∧ ∀ x ∈ l, 0 ≤ x ∧ x < (k : Int)
  lc : cr.length ≤ 2 * k
  cc : ∀ c ∈ cr, (c.1 = 0 ∨ c.1 = 1) ∧ 0 ≤ c.2 ∧ c.2 < (st.length : Int)
  get : ∀ (j : Nat) (q : Int), j < k → ((∃ c ∈ cr, c.1 = q ∧ (j : Int) ∈ st.getD c.2.toNat []) ↔ q ∈ T.getD j [])
theorem UI {k2 : Int} {st : List (List Int)} {aa : Int → List (List Int) → List (Int × Int) → Option Bool} (h5 : st.length ≤ 100) : ∀ (x : List Int) (cr : List (Int × Int)), (∀ q ∈ x, q = 0 ∨ q = 1) → cr.length + x.length ≤ 1000 → Dv k2 st aa x cr = aa (k2 + 1) st (cr ++ x.map fun q => (q, (st.length : Int) - 1))
  | [], cr, _, _ => by
    unfold Dv EH
    rw [List.map_nil, List.append_nil]
  | q :: x, cr, hq, hl => by
    rw [List.length_cons] at hl
    have h1 := hq q (by simp)
    have e : (if q ≠ 0 then some (decide (q ≠ 1)) else some false) = some false := by
      rcases h1 with rfl | rfl <;> rfl
    unfold Dv
    rw [e, AJ, if_neg (by decide), CN (A9 (by omega)), Kv (by rw [List.length_append, List.length_singleton]; omega), UI h5 x _ (fun y hy => hq y (by simp [hy])) (by rw [List.length_append, List.length_singleton]; omega), List.append_assoc]
    rfl
theorem X1.skip {k : Nat} {st : List (List Int)} {cr : List (Int × Int)} (h : X1 T k st cr) (e : T.getD k [] = []) : X1 T (k + 1) st cr :=
  ⟨by have := h.ls; omega, fun l hl => ⟨(h.one l hl).1, fun x hx => by have := (h.one l hl).2 x hx; omega⟩, by have := h.lc; omega, h.cc, fun j q hj => by
    by_cases e2 : j = k
    · subst e2
      rw [e]
      constructor
      · rintro ⟨c, hc, _, h3⟩
        have h4 := h.cc c hc
        have h5 := (h.one _ (KN (d := []) (show c.2.toNat < st.length by omega))).2 _ h3
        omega
      · intro h1; cases h1
    · exact h.get j q (by omega)⟩
theorem OX {α : Type} {xs ys : List α} {d : α} {i : Nat} : (xs ++ ys).getD i d = if i < xs.length then xs.getD i d else ys.getD (i - xs.length) d := by
  rw [List.getD_eq_getElem?_getD, List.getElem?_append]
  split <;> rw [List.getD_eq_getElem?_getD]
theorem X1.put {k : Nat} {st : List (List Int)} {cr : List (Int × Int)} (h : X1 T k st cr) (hr : (T.getD k []).length ≤ 2) (hq : ∀ q ∈ T.getD k [], q = 0 ∨ q = 1) : X1 T (k + 1) (st ++ [[(k : Int)]]) (cr ++ (T.getD k []).map fun q => (q, ((st ++ [[(k : Int)]]).length : Int) - 1)) := by
  have e1 : ((st ++ [[(k : Int)]]).length : Int) - 1 = (st.length : Int) := by rw [List.length_append, List.length_singleton]; omega
  have e2 : (st ++ [[(k : Int)]]).length = st.length + 1 := by simp
  rw [e1]
  refine ⟨by have := h.ls; omega, fun l hl => ?_, by have := h.lc; rw [List.length_append, List.length_map]; omega, fun c hc => ?_, fun j q hj => ?_⟩
  · rcases List.mem_append.1 hl with hl | hl
    · exact ⟨(h.one l hl).1, fun x hx => by have := (h.one l hl).2 x hx; omega⟩
    · rw [List.mem_singleton] at hl; subst hl
      exact ⟨by simp, fun x hx => by rw [List.mem_singleton] at hx; subst hx; omega⟩
  · rcases List.mem_append.1 hc with hc | hc
    · have := h.cc c hc; rw [e2]; exact ⟨this.1, this.2.1, by omega⟩
    · obtain ⟨q, ab, rfl⟩ := List.mem_map.1 hc
      exact ⟨hq q ab, by show (0 : Int) ≤ (st.length : Int); omega, by rw [e2]; show (st.length : Int) < _; omega⟩
  · have hold : (∃ c ∈ cr, c.1 = q ∧ (j : Int) ∈ (st ++ [[(k : Int)]]).getD c.2.toNat []) ↔ ∃ c ∈ cr, c.1 = q ∧ (j : Int) ∈ st.getD c.2.toNat [] := by
      constructor
      · rintro ⟨c, hc, h1, h2⟩
        have := h.cc c hc
        rw [OX, if_pos (by omega)] at h2
        exact ⟨c, hc, h1, h2⟩
      · rintro ⟨c, hc, h1, h2⟩
        have := h.cc c hc
        exact ⟨c, hc, h1, by rw [OX, if_pos (by omega)]; exact h2⟩
    have ad : (∃ c ∈ (T.getD k []).map fun q => (q, (st.length : Int)), c.1 = q ∧ (j : Int) ∈ (st ++ [[(k : Int)]]).getD c.2.toNat []) ↔ q ∈ T.getD k [] ∧ j = k := by
      constructor
      · rintro ⟨c, hc, h1, h2⟩
        obtain ⟨q2, ab, rfl⟩ := List.mem_map.1 hc
        have h1 : q2 = q := h1
        subst h1
        have h2 : (j : Int) ∈ (st ++ [[(k : Int)]]).getD ((st.length : Int)).toNat [] := h2
        rw [OX, Int.toNat_natCast, if_neg (by omega), Nat.sub_self] at h2
        have h2 : (j : Int) ∈ [(k : Int)] := h2
        rw [List.mem_singleton] at h2
        exact ⟨ab, by omega⟩
      · rintro ⟨h1, rfl⟩
        refine ⟨(q, (st.length : Int)), List.mem_map.2 ⟨q, h1, rfl⟩, rfl, ?_⟩
        show (j : Int) ∈ (st ++ [[(j : Int)]]).getD ((st.length : Int)).toNat []
        rw [OX, Int.toNat_natCast, if_neg (by omega), Nat.sub_self]
        exact List.mem_singleton.2 rfl
    have aa : ∀ P : Int × Int → Prop, (∃ c ∈ cr ++ (T.getD k []).map (fun q => (q, (st.length : Int))), P c) ↔ (∃ c ∈ cr, P c) ∨ ∃ c ∈ (T.getD k []).map (fun q => (q, (st.length : Int))), P c := fun P => by
      constructor
      · rintro ⟨c, hc, h1⟩
        rcases List.mem_append.1 hc with hc | hc
        · exact .inl ⟨c, hc, h1⟩
        · exact .inr ⟨c, hc, h1⟩
      · rintro (⟨c, hc, h1⟩ | ⟨c, hc, h1⟩)
        · exact ⟨c, List.mem_append_left _ hc, h1⟩
        · exact ⟨c, List.mem_append_right _ hc, h1⟩
    rw [aa, hold, ad]
    by_cases e3 : j = k
    · subst e3
      constructor
      · rintro (⟨c, hc, _, h3⟩ | h1)
        · have h4 := h.cc c hc
          have h5 := (h.one _ (KN (d := []) (show c.2.toNat < st.length by omega))).2 _ h3
          omega
        · exact h1.1
      · intro h1; exact .inr ⟨h1, rfl⟩
    · rw [h.get j q (by omega)]
      exact ⟨fun h1 => h1.elim id fun h2 => absurd h2.2 e3, .inl⟩
theorem Si {N : Nat} (hN : N ≤ 6) (hT : T.length = N) (hr : ∀ j, (T.getD j []).length ≤ 2) (hq : ∀ j, ∀ q ∈ T.getD j [], q = 0 ∨ q = 1) : ∀ (tl : List (List Int)) (k : Nat) (st : List (List Int)) (cr : List (Int × Int)), T.drop k = tl → k ≤ N → X1 T k st cr →
    ∃ aa ab, Cq which n n2 hs rs cs V T tl (k : Int) st cr = EK which n n2 hs rs cs V T aa ab ∧ X1 T N aa ab
  | [], k, st, cr, hd, hk, h => by
    have : k = N := by
      have := congrArg List.length hd
      rw [List.length_drop, List.length_nil] at this; omega
    subst this
    exact ⟨st, cr, rfl, h⟩
  | x :: tl, k, st, cr, hd, hk, h => by
    obtain ⟨af, hx, ad⟩ := drop_cons [] hd
    have h3 := hr k
    rw [hx] at h3
    unfold Cq
    by_cases e : x = []
    · obtain ⟨aa, ab, g1, g2⟩ := Si hN hT hr hq tl (k + 1) st cr ad (by omega) (h.skip (by rw [hx, e]))
      refine ⟨aa, ab, ?_, g2⟩
      rw [e, if_neg (by simp), AJ, if_neg (by decide)]
      unfold EH
      rw [show (k : Int) + 1 = ((k + 1 : Nat) : Int) by omega]
      exact g1
    · have h4 : 0 < x.length := List.length_pos_iff.2 e
      obtain ⟨aa, ab, g1, g2⟩ := Si hN hT hr hq tl (k + 1) _ _ ad (by omega) (h.put (hr k) (hq k))
      refine ⟨aa, ab, ?_, g2⟩
      have h5 := h.ls; have h6 := h.lc
      rw [if_pos (by omega), decide_eq_true (by omega), AJ, if_pos rfl, Kv (by rw [List.length_append, List.length_singleton]; omega), UI (by rw [List.length_append, List.length_singleton]; omega) x cr (fun q ae => hq k q (by rw [hx]; exact ae)) (by omega), show (k : Int) + 1 = ((k + 1 : Nat) : Int) by omega]
      rw [hx] at g1
      exact g1
theorem UF {hour : Int} : ∀ (l : List Int) (c : List (Int × Int × Int)), c.length + l.length ≤ 1000 → Ds hour l c = some (c ++ Lj hour 1 l)
  | [], c, _ => by unfold Ds Lj; rw [List.map_nil, List.append_nil]
  | s :: l, c, hl => by
    rw [List.length_cons] at hl
    unfold Ds
    rw [Kv (by rw [List.length_append, List.length_singleton]; omega), UF l _ (by rw [List.length_append, List.length_singleton]; omega), List.append_assoc]
    rfl
theorem WC (x y : Int) : ∀ (l : List (Int × Int)) (k : Int), 0 ≤ k → ∃ m, BO x y l k = some m ∧ (0 ≤ m ↔ (x, y) ∈ l)
  | [], k, _ => ⟨-1, rfl, by simp⟩
  | c :: l, k, hk => by
    unfold BO
    by_cases h : x = c.1 ∧ y = c.2
    · exact ⟨k, if_pos h, by rw [show (x, y) = c from Prod.ext h.1 h.2]; simp [hk]⟩
    · obtain ⟨m, h1, h2⟩ := WC x y l (k + 1) (by omega)
      refine ⟨m, by rw [if_neg h]; exact h1, ?_⟩
      rw [h2, List.mem_cons]
      constructor
      · exact .inr
      · rintro (h3 | h3)
        · exact absurd ⟨congrArg Prod.fst h3, congrArg Prod.snd h3⟩ h
        · exact h3
theorem Yq (l : List (Int × Int)) (x y : Int) : B5 l x y = some (decide ((x, y) ∈ l)) := by
  unfold B5 DH
  obtain ⟨n, h1, h2⟩ := WC x y l 0 (Int.le_refl _)
  rw [h1, AJ]
  exact J3 h2
theorem OT {k q v : Int} {c : List Int} (hv : Tw hs rs cs k q v) (hc : Ej none rs c) : (CB hs cs c k q = true → v ≠ 2) ∧ (CB hs cs c k q = false → v ≠ 1) := by
  rcases hv with ⟨rfl, h1⟩ | ⟨rfl, h1⟩ | ⟨rfl, _, _⟩
  · exact ⟨fun _ => by decide, fun h => (by rw [h1 c hc] at h; cases h)⟩
  · exact ⟨fun h => (by rw [h1 c hc] at h; cases h), fun _ => by decide⟩
  · exact ⟨fun _ => by decide, fun _ => by decide⟩
theorem U1 (h : Jg n n2 hs rs cs) (h2 : n2 = 2) (ah : cs.length ≤ 6) (hw : 0 ≤ which ∧ which ≤ 255) {real : List Int} (aa : Ej none rs real) (hV : Zk n n2 hs rs cs V)
    (al : (T.length : Int) = n) (ab : ∀ x : Int, (0 ≤ x ∧ x < n) → ∀ q : Int, (0 ≤ q ∧ q < n2) → (q ∈ T.getD x.toNat [] ↔ CB hs cs real x q = true))
    {G : List (Int × Int)} (hG : ∀ j : Nat, (j : Int) < n → (((j : Int), (0 : Int)) ∈ G ↔ 0 ∈ T.getD j [] ∧ ¬ 1 ∈ T.getD j [])) : ∀ (fu k : Nat), (k : Int) + fu = n → Cn which n n2 hs rs cs V T G fu (k : Int) = some true
  | 0, k, _ => by
    unfold Cn Hj
    rw [R8, AJ]
  | fu + 1, k, hk => by
    have ih := U1 h h2 ah hw aa hV al ab hG fu (k + 1) (by omega)
    rw [show ((k + 1 : Nat) : Int) = (k : Int) + 1 by omega] at ih
    have hex : ∃ c, Ej none rs c := ⟨real, aa⟩
    have hn := h.hn; have hr := h.hr; have hh := h.hh
    have bk := hV.len
    have ad := hV.row (V.getD k []) (KN (by omega))
    have v0 := hV.get (k : Int) 0 (by omega) (by omega)
    have v1 := hV.get (k : Int) 1 (by omega) (by omega)
    rw [Int.toNat_natCast] at v0 v1
    have t0 := ab (k : Int) (by omega) 0 (by omega)
    have t1 := ab (k : Int) (by omega) 1 (by omega)
    rw [Int.toNat_natCast] at t0 t1
    have hg := hG k (by omega)
    have iV : ∀ f : List Int → Option Bool, ix V (k : Int) f = f (V.getD k []) := fun f => YI [] f (by omega)
    have iT : ∀ f : List Int → Option Bool, ix T (k : Int) f = f (T.getD k []) := fun f => YI [] f (by omega)
    generalize V.getD k [] = row at ad v0 v1 iV
    have v0 : Tw hs rs cs (k : Int) 0 (row.getD 0 0) := v0
    have v1 : Tw hs rs cs (k : Int) 1 (row.getD 1 0) := v1
    have i0 : ∀ f : Int → Option Bool, ix row 0 f = f (row.getD 0 0) := fun f => U9 0 f (by omega) (by omega)
    have i1 : ∀ f : Int → Option Bool, ix row 1 f = f (row.getD 1 0) := fun f => U9 0 f (by omega) (by omega)
    generalize row.getD 0 0 = a0 at v0 i0
    generalize row.getD 1 0 = a1 at v1 i1
    generalize T.getD k [] = heard at t0 t1 hg iT
    have ao : B5 G (k : Int) 0 = some (CB hs cs real (k : Int) 0 && !CB hs cs real (k : Int) 1) := by
      rw [Yq]
      congr 1
      rw [Bool.eq_iff_iff, decide_eq_true_iff, hg, t0, t1]
      simp
    have c0 : Bu heard 0 = some (CB hs cs real (k : Int) 0) := by
      rw [contains_eq]; congr 1
      rw [Bool.eq_iff_iff, decide_eq_true_iff, t0]
    have c1 : Bu heard 1 = some (CB hs cs real (k : Int) 1) := by
      rw [contains_eq]; congr 1
      rw [Bool.eq_iff_iff, decide_eq_true_iff, t1]
    have r0 := OT v0 aa
    have r1 := OT v1 aa
    have hp : Tk n n2 [((k : Int), 0, true), ((k : Int), 1, false)] := ⟨by simp, fun p hm => by
      rcases List.mem_cons.1 hm with rfl | hm
      · exact ⟨⟨by show (0 : Int) ≤ (k : Int); omega, by show (k : Int) < n; omega⟩, by show (0 : Int) ≤ 0; omega, by show (0 : Int) < n2; omega⟩
      · rw [List.mem_singleton] at hm; subst hm
        exact ⟨⟨by show (0 : Int) ≤ (k : Int); omega, by show (k : Int) < n; omega⟩, by show (0 : Int) ≤ 1; omega, by show (1 : Int) < n2; omega⟩⟩
    -- the first question
    have q1 : (ix V (k : Int) fun x3 => if (x3.length : Int) ≠ 2 then some true else ix T (k : Int) fun x4 => b1 (Bu x4 0) fun aq => if aq = true then b1 (Bu x4 1) fun ar => if (CB hs cs real (k : Int) 0 && !CB hs cs real (k : Int) 1) ≠ (!ar) then some true else if (CB hs cs real (k : Int) 0 && !CB hs cs real (k : Int) 1) = true then ix x3 0 fun x5 => if x5 = 2 then some true else ix x3 1 fun x6 => some (decide (x6 = 1)) else some false else if (CB hs cs real (k : Int) 0 && !CB hs cs real (k : Int) 1) ≠ false then some true else if (CB hs cs real (k : Int) 0 && !CB hs cs real (k : Int) 1) = true then ix x3 0 fun x7 => if x7 = 2 then some true else ix x3 1 fun x8 => some (decide (x8 = 1)) else some false) = some false := by
      rw [iV, if_neg (by omega), iT, c0, AJ, c1, i0, i1]
      generalize CB hs cs real (k : Int) 0 = z0 at r0
      generalize CB hs cs real (k : Int) 1 = z1 at r1
      cases z0 with
      | false => simp
      | true =>
        cases z1 with
        | true => simp
        | false =>
          rw [if_pos rfl, AJ, if_neg (by decide), if_pos (by decide), if_neg (r0.1 rfl), decide_eq_false (r1.2 rfl)]
    -- the second question
    have q2 : ∃ l8 n7, EM n n2 hs rs cs [((k : Int), 0, true), ((k : Int), 1, false)] = some (l8, n7) ∧ (if n7 ≠ 0 then if n7 ≠ 6 then some true else if (CB hs cs real (k : Int) 0 && !CB hs cs real (k : Int) 1) = true then some true else if n7 = 0 then ix V (k : Int) fun x9 => ix x9 0 fun au => if au = 2 then some true else ix x9 1 fun av => some (decide (av = 1)) else some false else if (CB hs cs real (k : Int) 0 && !CB hs cs real (k : Int) 1) = true then if n7 = 0 then ix V (k : Int) fun ai => ix ai 0 fun aw => if aw = 2 then some true else ix ai 1 fun ax => some (decide (ax = 1)) else some false else if n7 = 0 then ix V (k : Int) fun aj => ix aj 0 fun ay => if ay = 2 then some true else ix aj 1 fun az => some (decide (az = 1)) else some false) = some false := by
      rcases Ng h hex hp with ⟨c, g1, g2, g3⟩ | ⟨g1, g3⟩
      · refine ⟨c, 0, g3, ?_⟩
        have s0 := (OT v0 g1).1 (g2 ((k : Int), 0, true) (by simp))
        have s1 := (OT v1 g1).2 (g2 ((k : Int), 1, false) (by simp))
        rw [if_neg (by decide), if_pos rfl, iV, i0, i1, if_neg s0, decide_eq_false s1]
        split <;> rfl
      · refine ⟨[], 6, g3, ?_⟩
        have ba : ¬ (CB hs cs real (k : Int) 0 && !CB hs cs real (k : Int) 1) = true := by
          intro hb
          rw [Bool.and_eq_true, Bool.not_eq_true'] at hb
          obtain ⟨p, hm, h3⟩ := g1 real aa
          rcases List.mem_cons.1 hm with rfl | hm
          · exact h3 hb.1
          · rw [List.mem_singleton] at hm; subst hm; exact h3 hb.2
        rw [if_pos (by decide), if_neg (by decide), if_neg ba, if_neg (by decide)]
    obtain ⟨l8, n7, bb, bc⟩ := q2
    have bd : (0 : Int) < (rs.length : Int) := by omega
    have ae : 0 ≤ Int.tmod which (rs.length : Int) := Int.tmod_nonneg _ hw.1
    have af : Int.tmod which (rs.length : Int) < (rs.length : Int) := Int.tmod_lt_of_pos _ bd
    unfold Cn
    rw [ao, AJ, q1, AJ, if_neg (by decide), bb, DD, bc, AJ, if_neg (by decide), CN (A9 (by omega)), CN (by omega), QO]
    generalize Int.tmod which (rs.length : Int) = hour at ae af
    obtain ⟨P, hP⟩ : ∃ P : List Nat → Bool, ∀ l, P l = true ↔ LK hs rs cs hour 1 [(k : Int)] (Pv l) := ⟨fun l => @decide _ (Classical.propDecidable (LK hs rs cs hour 1 [(k : Int)] (Pv l))), fun l => @decide_eq_true_iff _ (Classical.propDecidable _)⟩
    have eA := WV h hex ah (k := hour) (q := 1) (H := [(k : Int)]) ⟨ae, af⟩ (by omega) (List.nodup_cons.2 ⟨List.not_mem_nil, List.nodup_nil⟩) (fun x hx => by rw [List.mem_singleton] at hx; subst hx; omega) hP
    rw [eA]
    cases hf : Lh hs.length P (hs.length + 1) 0 with
    | none =>
      have bg : a1 ≠ 1 := by
        intro e
        rcases v1 with ⟨_, g1⟩ | ⟨g2, _⟩ | ⟨g2, _⟩
        · have := Qf hf [] ⟨List.Pairwise.nil, fun i hi => nomatch hi⟩ (Nat.zero_le _) (by simp)
          have h9 : P [] = true := (hP []).2 fun c hc x hx => by
            rw [List.mem_singleton] at hx; subst hx
            rw [QM, g1 c hc]; rfl
          rw [h9] at this; cases this
        · omega
        · omega
      show b2 (some (([] : List Int), (6 : Int))) _ = _
      rw [DD, if_pos (by decide), if_neg (by decide), iV, i1, decide_eq_false bg, AJ, if_neg (by decide)]
      exact ih
    | some d =>
      obtain ⟨hU, bh, _, _⟩ := P4 hf
      have hE := (hP d).1 bh
      have bl : d.length ≤ hs.length := hU.len
      have hlen : (Pv d).length = d.length := List.length_map ..
      have ak : Jg n n2 hs rs (cs ++ Lj hour 1 (Pv d)) := h.Lj ⟨ae, af⟩ (by omega) (by omega) (fun s bj => by
        obtain ⟨i, hi, rfl⟩ := List.mem_map.1 bj
        have := hU.2 i hi
        show (0 : Int) ≤ (i : Int) ∧ (i : Int) < _
        omega)
      have bm : (Lj hour 1 (Pv d)).length = d.length := by unfold Lj; rw [List.length_map, hlen]
      show b2 (some (Pv d, (0 : Int))) _ = _
      rw [DD, if_neg (by decide), Yc h, Qy, UF _ _ (by omega), AJ]
      rcases Uw ak hex (x := (k : Int)) (q := 1) (by omega) (by omega) false with ⟨c, g1, g2, _, _⟩ | ⟨_, _, g3⟩
      · rw [hE c g1 (k : Int) (by simp)] at g2; cases g2
      · rw [g3, DD, if_neg (by decide), AJ, if_neg (by decide)]
        rcases Ng ak hex hp with ⟨c, g1, g2, _⟩ | ⟨_, g4⟩
        · have := g2 ((k : Int), 1, false) (by simp)
          rw [hE c g1 (k : Int) (by simp)] at this; cases this
        · rw [g4, DD, if_neg (by decide)]
          exact ih
end
theorem Xz {metal : List Int} {a t H N S R n n2 : Int} {hs : List (List (List Int))} {rs : List Int} {cs : List (Int × Int × Int)} {real : List Int} {a' t' : Int} (ha : HS metal a) (hm : (metal.length : Int) ≤ 9223372036854775807) (hH : 1 ≤ H ∧ H ≤ 6) (hN : 1 ≤ N ∧ N ≤ 4) (h : FL metal a t H N S R = some (n, n2, hs, rs, cs, real, a', t')) : n2 ≤ N := by
  obtain ⟨x, a1, t1, e1, _, _, aa⟩ := Jc (t := t) (lo := 1) (hi := H) ha hm (by omega) (by omega)
  obtain ⟨y, a2, t2, e2, h3, h4, _⟩ := Jc (t := t1) (lo := 1) (hi := N) aa hm (by omega) (by omega)
  unfold FL at h
  rw [e1, CP, e2, CP] at h
  obtain ⟨_, _, _, _, h⟩ := E5 h
  obtain ⟨_, _, _, _, h⟩ := E5 h
  obtain ⟨_, _, _, _, _, h⟩ := XR h
  obtain ⟨_, _, _, _, h⟩ := E5 h
  have := congrArg (fun p => p.2.1) (Option.some.inj h)
  have : y = n2 := this
  omega
theorem VH {n n2 : Int} {hs : List (List (List Int))} {rs : List Int} {cs : List (Int × Int × Int)} (h : Jg n n2 hs rs cs) {c : List Int} (hl : c.length = rs.length) (hc : ∀ w ∈ c, 0 ≤ w ∧ w ≤ 7) : ∃ T, Hf n n2 hs rs cs c = some (T, 0) ∧ (T.length : Int) = n ∧ (∀ x : Int, (0 ≤ x ∧ x < n) → ∀ q : Int, (0 ≤ q ∧ q < n2) → (q ∈ T.getD x.toNat [] ↔ CB hs cs c x q = true)) ∧ ∀ j : Nat, ∀ q ∈ T.getD j [], 0 ≤ q ∧ q < n2 := by
  have hn := h.hn; have MM := h.MM
  obtain ⟨N, rfl⟩ := Int.eq_ofNat_of_zero_le (show 0 ≤ n by omega)
  obtain ⟨N2, rfl⟩ := Int.eq_ofNat_of_zero_le (show 0 ≤ n2 by omega)
  obtain ⟨R, g1, g2, _, g4⟩ := Rh (KV h c 0 Gf hc (by simp [Gf])) (N := N) (N2 := N2) (by omega) (by omega) N 0 (List.replicate N []) (by omega) (by simp) (fun j _ => by
    rw [List.getD_eq_getElem?_getD, List.getElem?_replicate]; split <;> rfl)
  obtain ⟨T, f1, f2, f3⟩ := WD h hl hc
  have ab : D1 (N2 : Int) (Fj hs cs 0 c Gf) (Int.toNat (((List.replicate ((N : Int)).toNat ([] : List Int)).length : Int) - 0)) 0 (List.replicate ((N : Int)).toNat []) = some R := by
    rw [Int.toNat_natCast, List.length_replicate, show Int.toNat ((N : Int) - 0) = N by omega]; exact g1
  have aa := f1
  unfold Hf at aa
  rw [RY h hl hc, DD, if_neg (by decide), Qy, Tj h hc, AJ, CN (by omega), QO, CN ⟨A9 (by omega), A9 (by rw [List.length_replicate]; omega)⟩, ab, AJ] at aa
  have ad : R = T := congrArg Prod.fst (Option.some.inj aa)
  subst ad
  refine ⟨R, f1, f2, f3, fun j q hq => ?_⟩
  by_cases hj : j < N
  · have := (g4 j (Nat.zero_le _) hj q).1 hq
    exact ⟨this.1, this.2.1⟩
  · rw [List.getD_eq_getElem?_getD, List.getElem?_eq_none (by omega)] at hq
    cases hq
theorem Vr {numbers : List Int} {which : Int} (h1 : (numbers.length : Int) ≤ 9223372036854775807) (hw : 0 ≤ which ∧ which ≤ 255) : HD numbers which = some true := by
  unfold HD Ku
  obtain ⟨n, n2, hs, rs, cs, real, a, t, e1, hM, _⟩ := Xo (metal := numbers) (t := 0) (a := 0) (H := 4) (N := 2) (S := 3) (R := 4) ⟨by omega, by omega⟩ h1 (by omega) (by omega) (by omega) (by omega)
  have MM := Xz (metal := numbers) (t := 0) (a := 0) ⟨by omega, by omega⟩ h1 (by omega) (by omega) e1
  have h := hM.ok
  have hex : ∃ c, Ej none rs c := ⟨real, hM.fit⟩
  have hn := h.hn
  rw [CP, e1, U6]
  by_cases e2 : n2 < 2
  · rw [if_pos e2, R8, AJ]
  · have e3 : n2 = 2 := by omega
    obtain ⟨V, eV, hV⟩ := S8 h hex
    obtain ⟨T, eT, af, ad, ah⟩ := VH h hM.fit.len hM.fit.T3
    have ae : ∀ j, (T.getD j []).length ≤ 2 := fun j => by
      have := T5 eT j
      rw [e3] at this; exact this
    have hq : ∀ j, ∀ q ∈ T.getD j [], q = 0 ∨ q = 1 := fun j q hq => by
      have := ah j q hq; omega
    have al := hV.len
    rw [if_neg e2, eV, DD, eT, DD, if_neg (by decide), if_neg (by decide), if_neg (by omega), decide_eq_false (by omega), AJ, if_neg (by decide)]
    obtain ⟨st, cr, e5, hS⟩ := Si (which := which) (n := n) (n2 := n2) (hs := hs) (rs := rs) (cs := cs) (V := V) (N := T.length) (by omega) rfl ae hq T 0 [] [] rfl (Nat.zero_le _) ⟨Nat.le_refl _, (fun _ h => nomatch h), Nat.zero_le _, (fun _ h => nomatch h), fun j _ hj => by omega⟩
    have ai : Cq which n n2 hs rs cs V T T 0 [] [] = EK which n n2 hs rs cs V T st cr := e5
    have aa : ∀ ab, LI n ab cr → (∀ (j : Nat) (q : Int), j < T.length → ((∃ c ∈ cr, c.1 = q ∧ (j : Int) ∈ ab.getD c.2.toNat []) ↔ q ∈ T.getD j [])) → (b2 (JW n [] [(-1, false), (0, false)] ab cr 0) fun l7 n6 => if n6 ≠ 0 then some false else gd (C9 0 ∧ C9 n) <| Cn which n n2 hs rs cs V T l7 (Int.toNat (n - 0)) 0) = some true := fun ab hN hg => by
      obtain ⟨G, e7, hG⟩ := Wb hN
      have aj : JW n [] [(-1, false), (0, false)] ab cr 0 = some (G, 0) := e7
      have e8 := U1 (which := which) h e3 hM.ZM hw hM.fit hV af ad (G := G) (fun j hj => by
        rw [hG j hj, hg j 0 (by omega), hg j 1 (by omega)]) (Int.toNat (n - 0)) 0 (by omega)
      rw [aj, DD, if_neg (by decide), CN ⟨A9 (by omega), A9 (by omega)⟩]
      exact e8
    have ao := hS.lc; have aq := hS.ls
    rw [ai]
    unfold EK
    by_cases e6 : st = []
    · subst e6
      rw [if_pos (show (([] : List (List Int)).length : Int) = 0 from rfl), AJ]
      have ak : cr = [] := by
        cases cr with
        | nil => rfl
        | cons c l =>
          have := (hS.cc c (by simp)).2
          rw [List.length_nil] at this; omega
      subst ak
      refine aa [[]] ⟨by omega, ⟨by decide, by decide⟩, fun l hl => ?_, by decide, fun _ h => nomatch h⟩ fun j q hj => ?_
      · rw [List.mem_singleton] at hl; subst hl
        exact ⟨Nat.zero_le _, fun _ h => nomatch h⟩
      · rw [← hS.get j q hj]
        constructor <;> rintro ⟨c, hc, _⟩ <;> cases hc
    · have h4 : 0 < st.length := List.length_pos_iff.2 e6
      rw [if_neg (by omega), AJ]
      exact aa st ⟨by omega, by omega, fun l hl => ⟨(hS.one l hl).1, fun x hx => by have := (hS.one l hl).2 x hx; omega⟩, by omega, hS.cc⟩ hS.get
end Go.Proofs.YtfmapnhfamoecaaGreat.Bk
