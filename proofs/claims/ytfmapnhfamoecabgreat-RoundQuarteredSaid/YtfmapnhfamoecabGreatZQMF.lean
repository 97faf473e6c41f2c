/- A quarter of a town, and a crier's beat on its streets; in plain Lean. -/
import Derived.Test.YtfmapnhfamoecabGreatZQMB
import Derived.Test.YtfmapnhfamoecabGreatZQME
namespace Go.Proofs.YtfmapnhfamoecabGreat.Rd
open Go.PL Go.Hear
def Jv (q : List Int) (c : Int) (p : Nat) : Bool := decide (q.getD p 0 = c)
theorem TY {q : List Int} {c : Int} {k : Nat} (h : q.getD k 0 = c) : Dc (Jv q c) (k + 1) = Dc (Jv q c) k ++ [(k : Int)] := by
  rw [Io, if_pos (show Jv q c k = true by unfold Jv; rw [h]; simp)]
theorem Qw {q : List Int} {c : Int} {k : Nat} (h : q.getD k 0 ≠ c) : Dc (Jv q c) (k + 1) = Dc (Jv q c) k := by
  rw [Io, if_neg (show ¬ Jv q c k = true by unfold Jv; simp only [decide_eq_true_eq]; exact h), List.append_nil]
theorem Oq {q : List Int} {c : Int} {k : Nat} (hk : k < q.length) (hc : c ≠ 2) : Dc (Jv (q.set k 2) c) (k + 1) = Dc (Jv q c) k := by
  rw [Qw (by rw [GQ hk, if_pos rfl]; exact fun e => hc e.symm)]
  exact Jm fun i hi => by unfold Jv; rw [GQ hk, if_neg (by omega)]
theorem J1 {q : List Int} {c x : Int} {n : Nat} : x ∈ Dc (Jv q c) n ↔ (0 ≤ x ∧ x < n) ∧ q.getD x.toNat 0 = c := by
  rw [JZ]; unfold Jv; rw [decide_eq_true_iff]
structure JC (n : Nat) (q S H : List Int) : Prop where
  len : q.length = n
  all : q.all TA = true
  st : S = Dc (Jv q 0) n
  ho : H = Dc (Jv q 1) n
  s5 : S.length ≤ 5
  h5 : H.length ≤ 5
  one : ∃ s : Nat, s < n ∧ q.getD s 0 = 0
theorem WC {q : List Int} (h : q.all TA = true) (k : Nat) : (q.set k 2).all TA = true := by
  rw [List.all_eq_true] at h ⊢
  intro x hx
  rcases List.mem_or_eq_of_mem_set hx with h1 | rfl
  · exact h x h1
  · decide
theorem MK {n : Nat} (hn : n ≤ 1000) : ∀ (fu k : Nat) (q : List Int), k + fu = n → q.length = n → q.all TA = true → (Dc (Jv q 0) k).length ≤ 5 → (Dc (Jv q 1) k).length ≤ 5 → (∃ s : Nat, s < n ∧ q.getD s 0 = 0) →
    ∃ q' S H, A9 fu (k : Int) q (Dc (Jv q 0) k) (Dc (Jv q 1) k) = some (q', S, H) ∧ JC n q' S H
  | 0, k, q, hk, hl, ha, h0, h1, hs => by
    obtain rfl : k = n := by omega
    exact ⟨q, _, _, rfl, hl, ha, rfl, rfl, h0, h1, hs⟩
  | fu + 1, k, q, hk, hl, ha, h0, h1, hs => by
    have ad : k < q.length := by omega
    unfold A9
    rw [Ri _ ad]
    have ee : ((k : Int) + 1) = ((k + 1 : Nat) : Int) := rfl
    have wall : ∀ c : Int, c = 0 ∧ ¬ (Dc (Jv q 0) k).length < 5 ∨ c = 1 → q.getD k 0 = c → ∃ q' S H, A9 fu ((k : Int) + 1) (q.set k 2) (Dc (Jv q 0) k) (Dc (Jv q 1) k) = some (q', S, H) ∧ JC n q' S H := fun c hc hx => by
      have := MK hn fu (k + 1) (q.set k 2) (by omega) (by rw [List.length_set]; exact hl) (WC ha k) (by rw [Oq ad (by decide)]; exact h0) (by rw [Oq ad (by decide)]; exact h1) (by
        rcases hc with ⟨rfl, hc⟩ | rfl
        · have GV : 0 < (Dc (Jv q 0) k).length := by omega
          have hm := List.getElem_mem GV
          rw [J1] at hm
          refine ⟨((Dc (Jv q 0) k)[0]).toNat, by omega, ?_⟩
          rw [GQ ad, if_neg (by omega)]; exact hm.2
        · obtain ⟨s, s1, s2⟩ := hs
          have : s ≠ k := fun e => by rw [e, hx] at s2; exact absurd s2 (by decide)
          exact ⟨s, s1, by rw [GQ ad, if_neg (by omega)]; exact s2⟩)
      rw [Oq ad (by decide), Oq ad (by decide)] at this
      exact this
    have hlen : ∀ c, (Dc (Jv q c) k).length ≤ k := fun c => KY _ _
    by_cases aa : q.getD k 0 = 0
    · rw [if_pos aa, Aw]
      have ab : Dc (Jv q 1) (k + 1) = Dc (Jv q 1) k := Qw (by rw [aa]; decide)
      by_cases h5 : (Dc (Jv q 0) k).length < 5
      · rw [if_pos (decide_eq_true (show ((Dc (Jv q 0) k).length : Int) < 5 by omega)), Iv (by simp only [List.length_append, List.length_singleton]; omega)]
        have ae : Dc (Jv q 0) (k + 1) = Dc (Jv q 0) k ++ [(k : Int)] := TY aa
        have := MK hn fu (k + 1) q (by omega) hl ha (by rw [ae]; simp; omega) (by rw [ab]; exact h1) hs
        rw [ae, ab] at this; exact this
      · rw [if_neg (show ¬ decide (((Dc (Jv q 0) k).length : Int) < 5) = true by simp only [decide_eq_true_eq]; omega), if_pos aa, J2, Int.toNat_natCast]
        exact wall 0 (.inl ⟨rfl, h5⟩) aa
    · rw [if_neg aa, Aw, if_neg (by decide), if_neg aa]
      have ae : Dc (Jv q 0) (k + 1) = Dc (Jv q 0) k := Qw aa
      by_cases af : q.getD k 0 = 1
      · rw [if_pos af, Aw]
        by_cases h5 : (Dc (Jv q 1) k).length < 5
        · rw [if_pos (decide_eq_true (show ((Dc (Jv q 1) k).length : Int) < 5 by omega)), Iv (by simp only [List.length_append, List.length_singleton]; omega)]
          have ab : Dc (Jv q 1) (k + 1) = Dc (Jv q 1) k ++ [(k : Int)] := TY af
          have := MK hn fu (k + 1) q (by omega) hl ha (by rw [ae]; exact h0) (by rw [ab]; simp; omega) hs
          rw [ae, ab] at this; exact this
        · rw [if_neg (show ¬ decide (((Dc (Jv q 1) k).length : Int) < 5) = true by simp only [decide_eq_true_eq]; omega), if_pos af, J2, Int.toNat_natCast]
          exact wall 1 (.inr rfl) af
      · rw [if_neg af, Aw, if_neg (by decide), if_neg af]
        have ab : Dc (Jv q 1) (k + 1) = Dc (Jv q 1) k := Qw af
        have := MK hn fu (k + 1) q (by omega) hl ha (by rw [ae]; exact h0) (by rw [ab]; exact h1) hs
        rw [ae, ab] at this; exact this
theorem RC : ∀ (n : Nat) (q : List Int), q.length = n → HK q = (Dc (Jv q 1) n).length
  | 0, q, hl => by
    obtain rfl := List.length_eq_zero_iff.1 hl
    rfl
  | n + 1, q, hl => by
    have hq : q = q.take n ++ [q.getD n 0] := by
      have h1 : n < q.length := by omega
      have h2 : q.take (n + 1) = q.take n ++ [q.getD n 0] := by rw [List.take_add_one, Iq (d := (0 : Int)) h1]; rfl
      rw [← h2, List.take_of_length_le (by omega)]
    have ht : (q.take n).length = n := by rw [List.length_take]; omega
    have ih := RC n (q.take n) ht
    have e : Dc (Jv (q.take n) 1) n = Dc (Jv q 1) n := Jm fun i hi => by
      unfold Jv
      rw [List.getD_eq_getElem?_getD, List.getElem?_take_of_lt hi, ← List.getD_eq_getElem?_getD]
    rw [hq, MI, ← hq, ih, e, Io, List.length_append]
    congr 1
    have g : ∀ x : Int, (List.filter (fun x => decide (x = 1)) [x]).length = (if decide (x = 1) = true then [(n : Int)] else []).length := fun x => by by_cases c : x = 1 <;> simp [c]
    exact g _
theorem JC.Mv {n : Nat} {wide : Int} {ps q S H : List Int} (h : JC n q S H) (hc : Mv wide ps = 0) (hl : ps.length = n) : Mv wide q = 0 := by
  have hb := h.h5
  have aa := RC n q h.len
  rw [← h.ho] at aa
  have ha := h.all
  have ab := h.len
  unfold Go.Hear.Mv at hc ⊢
  rw [ab, ← hl]
  split at hc
  · exact absurd hc (by decide)
  · rename_i h1
    rw [if_neg h1, if_neg (by rw [ha]; decide), if_neg (by omega)]
end Go.Proofs.YtfmapnhfamoecabGreat.Rd
namespace Go.Proofs.YtfmapnhfamoecabGreat.Rd
open Go.PL Go.Hear
theorem RO (v : Int) : ∀ (l : List Int) (k : Int), v ∈ l → ∃ i : Nat, i < l.length ∧ l.getD i 0 = v ∧ Bq v l k = some (k + i)
  | [], k, h => (nomatch h)
  | x :: l, k, h => by
    unfold Bq
    by_cases e : v = x
    · rw [if_pos e]
      exact ⟨0, Nat.zero_lt_succ _, e.symm, by simp⟩
    · rw [if_neg e]
      obtain ⟨i, h1, h2, h3⟩ := RO v l (k + 1) (by rcases List.mem_cons.1 h with h | h; exact absurd h e; exact h)
      exact ⟨i + 1, by simp only [List.length_cons]; omega, h2, by rw [h3]; congr 1; omega⟩
theorem Wc {H : List Int} (hH : H.length ≤ 1000) : ∀ (tl acc : List Int), (∀ x ∈ tl, x ∈ H) → acc.length + tl.length ≤ 100000 → ∃ ys, BM H tl acc = some (acc ++ ys) ∧ ys.map (fun y => H.getD y.toNat 0) = tl ∧ ∀ y ∈ ys, 0 ≤ y ∧ y < (H.length : Int)
  | [], acc, _, _ => ⟨[], by rw [List.append_nil]; rfl, rfl, fun _ h => (nomatch h)⟩
  | x :: tl, acc, hx, ha => by
    simp only [List.length_cons] at ha
    obtain ⟨i, h1, h2, h3⟩ := RO x H 0 (hx x (by simp))
    obtain ⟨ys, g1, g2, g3⟩ := Wc hH tl (acc ++ [(i : Int)]) (fun y hy => hx y (by simp [hy])) (by simp; omega)
    have aa : Bq x H 0 = some (i : Int) := by rw [h3]; simp
    unfold BM Dp
    rw [aa, Aw, Iv (by simp only [List.length_append, List.length_singleton]; omega), g1]
    refine ⟨(i : Int) :: ys, by simp, ?_, fun y hy => ?_⟩
    · rw [List.map_cons, g2, Int.toNat_natCast, h2]
    · rcases List.mem_cons.1 hy with rfl | hy
      · omega
      · exact g3 y hy
def Td (i j : Nat) (w : Int) : Prop := (i = j → w = 0) ∧ (i ≠ j → 1 ≤ w ∧ w ≤ 5)
theorem V1 {metal : List Int} (hm : (metal.length : Int) ≤ 9223372036854775807) {i : Nat} (hi : i ≤ 1000) : ∀ (tl : List Int) (k : Nat) (a t : Int) (acc : List Int), Jj metal a → acc.length = k → k + tl.length ≤ 1000 → (∀ j, j < k → Td i j (acc.getD j 0)) →
    ∃ a' t' r, BN metal (i : Int) tl (k : Int) a t acc = some (a', t', r) ∧ Jj metal a' ∧ r.length = k + tl.length ∧ ∀ j, j < r.length → Td i j (r.getD j 0)
  | [], k, a, t, acc, ha, hl, _, h => ⟨a, t, acc, rfl, ha, by simpa using hl, by rw [hl]; exact h⟩
  | x :: tl, k, a, t, acc, ha, hl, hb, h => by
    simp only [List.length_cons] at hb
    obtain ⟨n, a1, t1, h1, h2, h3, h4⟩ := Ie (t := t) (lo := 1) (hi := 5) ha hm (by omega) (by omega)
    unfold BN
    rw [Bp (AJ (by omega)), Bp (AJ (by omega)), h1, Dg]
    generalize he : (if (if (k : Int) - i > i - k then (k : Int) - i else i - k) < 1 then (if (k : Int) - i > i - k then (k : Int) - i else i - k) else 1) = e
    have ab : (i = k → e = 0) ∧ (i ≠ k → e = 1) := by
      constructor
      · intro aa; subst aa; simp at he; exact he.symm
      · intro aa
        have ad : ¬ (if (k : Int) - i > i - k then (k : Int) - i else i - k) < 1 := by split <;> omega
        rw [if_neg ad] at he; exact he.symm
    have hv : Td i k (e * n) := by
      constructor
      · intro aa; rw [ab.1 aa, Int.zero_mul]
      · intro aa; rw [ab.2 aa, Int.one_mul]; omega
    have hr : -1000 ≤ e * n ∧ e * n ≤ 1000 := by
      by_cases aa : i = k
      · rw [hv.1 aa]; omega
      · have := hv.2 aa; omega
    rw [Bp (AJ (by omega)), Iv (by simp only [List.length_append, List.length_singleton]; omega)]
    have ae : (acc ++ [e * n]).length = k + 1 := by simp [hl]
    obtain ⟨a', t', r, g1, g2, g3, g4⟩ := V1 hm hi tl (k + 1) a1 t1 (acc ++ [e * n]) h4 ae (by omega) (fun j hj => by
      rw [LK]
      by_cases c : j < acc.length
      · rw [if_pos c]; exact h j (by omega)
      · rw [if_neg c, if_pos (by omega), show j = k by omega]; exact hv)
    exact ⟨a', t', r, g1, g2, by rw [g3, List.length_cons]; omega, g4⟩
theorem Pf {l : List Int} (h : l.Pairwise (· < ·)) {i j : Nat} (hi : i < l.length) (hj : j < l.length) (he : l.getD i 0 = l.getD j 0) : i = j := by
  have e1 : ∀ {k : Nat} (hk : k < l.length), l.getD k 0 = l[k] := fun hk => by rw [List.getD_eq_getElem?_getD, List.getElem?_eq_getElem hk]; rfl
  rw [e1 hi, e1 hj] at he
  have h2 := List.pairwise_iff_getElem.1 h
  rcases Nat.lt_trichotomy i j with c | c | c
  · have := h2 i j hi hj c; omega
  · exact c
  · have := h2 j i hj hi c; omega
section
variable {n : Nat} {wide : Int} {q S H : List Int} {w v : Int}
def QJ (wide : Int) (q S H : List Int) (w v : Int) (k : Nat) (ws hs : List (List Int)) : Prop := ws.length = k ∧ hs.length = k ∧ ∀ i, i < k → ((ws.getD i []).length = S.length ∧ ∀ j, j < S.length → Td i j ((ws.getD i []).getD j 0)) ∧ ((hs.getD i []).Nodup ∧ (∀ y ∈ hs.getD i [], 0 ≤ y ∧ y < (H.length : Int)) ∧ ∀ y : Int, 0 ≤ y ∧ y < (H.length : Int) → (y ∈ hs.getD i [] ↔ Mw wide q w v (S.getD i 0).toNat (H.getD y.toNat 0).toNat = true))
theorem JC.sorted (h : JC n q S H) : H.Pairwise (· < ·) := by rw [h.ho]; exact TB _ _
theorem JC.SK (h : JC n q S H) {i : Nat} (hi : i < S.length) : (0 ≤ S.getD i 0 ∧ S.getD i 0 < (n : Int)) ∧ q.getD (S.getD i 0).toNat 0 = 0 := by
  have := FK (d := (0 : Int)) hi
  rw [h.st, J1, ← h.st] at this
  exact this
theorem JC.Co (h : JC n q S H) {i : Nat} (hi : i < H.length) : (0 ≤ H.getD i 0 ∧ H.getD i 0 < (n : Int)) ∧ q.getD (H.getD i 0).toNat 0 = 1 := by
  have := FK (d := (0 : Int)) hi
  rw [h.ho, J1, ← h.ho] at this
  exact this
theorem VE {s p : Nat} (h : Mw wide q w v s p = true) : q.getD p 0 = 1 := by
  unfold Mw at h
  simp only [Bool.and_eq_true, decide_eq_true_eq] at h
  exact h.2.1
theorem XL (h : JC n q S H) (hn : n ≤ 30) {s : Nat} : ∃ ys, BM H (Dc (Mw wide q w v s) q.length) [] = some ys ∧ ys.Nodup ∧ (∀ y ∈ ys, 0 ≤ y ∧ y < (H.length : Int)) ∧ ∀ y : Int, 0 ≤ y ∧ y < (H.length : Int) → (y ∈ ys ↔ Mw wide q w v s (H.getD y.toNat 0).toNat = true) := by
  have hl := h.len
  have h5 := h.h5
  obtain ⟨ys, g1, g2, g3⟩ := Wc (H := H) (by omega) (Dc (Mw wide q w v s) q.length) [] (fun x hx => by
    rw [JZ] at hx
    rw [h.ho, J1]
    exact ⟨by omega, VE hx.2⟩) (by
    have := KY (Mw wide q w v s) q.length
    simp; omega)
  refine ⟨ys, g1, ?_, g3, fun y hy => ?_⟩
  · have ad : (ys.map fun y => H.getD y.toNat 0).Nodup := by
      rw [g2]
      exact (TB _ _).imp fun aa => by omega
    exact (List.pairwise_map.1 ad).imp fun aa e => aa (by rw [e])
  · have ab : y.toNat < H.length := by omega
    have hm : Mw wide q w v s (H.getD y.toNat 0).toNat = true ↔ H.getD y.toNat 0 ∈ Dc (Mw wide q w v s) q.length := by
      rw [JZ]
      have := (h.Co ab).1
      constructor
      · intro e; exact ⟨by omega, e⟩
      · exact fun e => e.2
    rw [hm, ← g2, List.mem_map]
    constructor
    · intro e; exact ⟨y, e, rfl⟩
    · rintro ⟨z, z1, z2⟩
      have hz := g3 z z1
      have := Pf h.sorted (by omega) ab z2
      rwa [show y = z by omega]
theorem Su {metal : List Int} (hm : (metal.length : Int) ≤ 9223372036854775807) (h : JC n q S H) (hc : Mv wide q = 0) (hn : n ≤ 30) (hw : okW w) (hv : 1 ≤ v ∧ v ≤ 40)
    (hj : ∀ a t ws hs, Jj metal a → QJ wide q S H w v S.length ws hs → CM metal wide w v q S H a t ws hs = some true) : ∀ (tl : List Int) (k : Nat) (a t : Int) (ws hs : List (List Int)), S.drop k = tl → k ≤ S.length → Jj metal a → QJ wide q S H w v k ws hs → BO metal wide w v q S H tl (k : Int) a t ws hs = some true
  | [], k, a, t, ws, hs, hd, hk, ha, hr => by
    have : k = S.length := by
      have := congrArg List.length hd
      rw [List.length_drop, List.length_nil] at this; omega
    subst this
    exact hj a t ws hs ha hr
  | x :: tl, k, a, t, ws, hs, hd, _, ha, hr => by
    obtain ⟨hk, hx, ab⟩ := drop_cons (0 : Int) hd
    have hl := h.len
    have h5 := h.s5
    have aa := h.SK hk
    rw [hx] at aa
    have hE : RZ wide q w v x = 0 := by
      unfold RZ
      rw [Oa hc hw hv, if_neg (by decide)]
      exact SA ⟨by omega, aa.2⟩
    obtain ⟨ys, y1, y2, y3, y4⟩ := XL (wide := wide) (w := w) (v := v) h hn (s := x.toNat)
    obtain ⟨a', t', r, g1, g2, g3, g4⟩ := V1 hm (i := k) (by omega) S 0 a t [] ha rfl (by omega) (fun j hj => absurd hj (Nat.not_lt_zero _))
    have ad : BN metal (k : Int) S 0 a t [] = some (a', t', r) := g1
    unfold BO
    rw [Un (by omega), BY, hE, if_neg (by decide), if_pos rfl, y1, Aw, contains_eq, Aw, if_neg (by
      rw [decide_eq_true_eq]; exact fun e => by have := y3 _ e; omega), ad, Dg, Iv (by rw [List.length_append, List.length_singleton, hr.2.1]; omega), Iv (by rw [List.length_append, List.length_singleton, hr.1]; omega)]
    unfold DV
    refine Su hm h hc hn hw hv hj tl (k + 1) a' t' _ _ ab hk g2 ⟨by simp [hr.1], by simp [hr.2.1], fun i hi => ?_⟩
    rw [LK, LK, hr.1, hr.2.1]
    by_cases c : i < k
    · rw [if_pos c, if_pos c]; exact hr.2.2 i c
    · rw [if_neg c, if_neg c, if_pos (by omega), if_pos (by omega), show i = k by omega, hx]
      exact ⟨⟨by simpa using g3, fun j hj => g4 j (by omega)⟩, y2, y3, y4⟩
end
end Go.Proofs.YtfmapnhfamoecabGreat.Rd
namespace Go.Proofs.YtfmapnhfamoecabGreat.Rd
open Go.PL Go.Hear
section
variable {ws hs : List (List Int)} {H st : Int} {ns : List (List Int × Int × Int)}
theorem Uw (h : GU ws hs H st ns) {B : Int} (hq : ∀ i k, i < hs.length → k < hs.length → E0 ws i k ≠ -1 ∧ E0 ws i k ≤ B) : ∃ c ps hit, CA ws hs H st ns = some (some (ws, hs, H, st, ns, c, ps, hit), 0) ∧ Kh hs ns c ps hit ∧ ∀ i k, i < hs.length → k < hs.length → en c i k ≠ -1 ∧ 0 ≤ en c i k ∧ en c i k ≤ B := by
  have h5 := h.KP.2
  obtain ⟨c0, a, c, e1, e2, e3, hc, aa⟩ := Qf h (Q := fun w => ∀ i k, i < hs.length → k < hs.length → en w i k ≠ -1 ∧ en w i k ≤ B) (fun w w' _ hw ht i k hi hk => by
    have h1 := hw i k hi hk
    have h2 := (ht i k (by omega) (by omega)).old h1.1
    exact ⟨h2.1, by omega⟩) (fun w hw i k hi hk => by rw [hw i k (by omega) (by omega)]; exact hq i k hi hk)
  have h0 : O3 ns 0 [] := ⟨rfl, List.nodup_nil, fun q => ⟨fun hq => (nomatch hq), fun hq => absurd hq.1 (by omega)⟩⟩
  have hz : Py (List.replicate 15 0) (QP hs []) := Py.zero.congr fun s n p _ _ => by unfold QP; simp
  obtain ⟨ps, hit, e4, hp, hh⟩ := Rg h ns 0 [] (List.replicate 15 0) rfl h0 (Nat.zero_le _) hz
  have ab : DG hs ns 0 [] (List.replicate 15 0) = some (ps, hit) := e4
  refine ⟨c, ps, hit, ?_, ⟨hc, hp, hh⟩, fun i k hi hk => ?_⟩
  · unfold CA
    rw [Rn h, Aw, if_neg (by decide), Bp ⟨AJ (by omega), AJ (by omega)⟩, e1, Aw, e2, Aw, e3, Aw, ab, BY]
  · have h1 := aa i k hi hk
    have h2 := hc.Kz i k (by omega) (by omega)
    omega
variable {c : List Int} {ps : List (Int × Int)} {hit : List Int} {bd : Nat → Int} {S : Nat}
theorem Yu (hE : ∀ i k, i < S → k < S → en c i k ≠ -1 ∧ 0 ≤ en c i k ∧ en c i k ≤ 20) (hw : ∀ n, n < ns.length → 1 ≤ Hi ns n ∧ Hi ns n ≤ 5) {B : Int} (aa : ∀ n, n < ns.length → B ≤ bd n) : ∀ (l : List (Int × Int)) (k m : Int), L8 S ns.length l → (0 ≤ k ∧ k < (S : Int)) → m + 25 * (l.length : Int) ≤ B → (∃ es, HE c ns k m l = some es) ∧ ∀ p x, x ∈ l → (hb hit x.1.toNat x.2.toNat).testBit p = true → NF c ns hit bd k m l p = true
  | [], k, m, _, _, _ => ⟨⟨[], rfl⟩, fun _ _ h => (nomatch h)⟩
  | x :: l, k, m, hl, hk, hB => by
    obtain ⟨h1, h2⟩ := hl x (by simp)
    simp only [List.length_cons] at hB
    have e1 := hE k.toNat x.1.toNat (by omega) (by omega)
    have e2 := hw x.2.toNat (by omega)
    have e3 := aa x.2.toNat (by omega)
    obtain ⟨⟨es, g1⟩, g2⟩ := Yu hE hw aa l x.1 (m + en c k.toNat x.1.toNat + Hi ns x.2.toNat) (fun y hy => hl y (by simp [hy])) h1 (by omega)
    refine ⟨⟨_, by unfold HE; rw [if_neg e1.1, g1]; rfl⟩, fun p y hy ab => ?_⟩
    unfold NF
    rw [Bool.or_eq_true, Bool.and_eq_true, decide_eq_true_iff]
    rcases List.mem_cons.1 hy with rfl | hy
    · exact .inl ⟨by omega, ab⟩
    · exact .inr (g2 p y hy ab)
theorem ON {p : Nat} : ∀ {l : List (Int × Int)} {k m : Int}, NF c ns hit bd k m l p = true → ∃ x ∈ l, (hb hit x.1.toNat x.2.toNat).testBit p = true
  | [], _, _, h => by cases h
  | x :: l, k, m, h => by
    unfold NF at h
    rw [Bool.or_eq_true, Bool.and_eq_true] at h
    rcases h with h | h
    · exact ⟨x, by simp, h.2⟩
    · obtain ⟨y, h1, h2⟩ := ON h
      exact ⟨y, by simp [h1], h2⟩
theorem O6 (h : GU ws hs H st ns) (hc : Kh hs ns c ps hit) {p s n : Nat} (hp : p < ps.length) (aa : s < hs.length) (hn : n < ns.length) : (hb hit s n).testBit p = true ↔ (ps.getD p (0, 0)).1 = (n : Int) ∧ (ps.getD p (0, 0)).2 ∈ hs.getD s [] := by
  have h5 := h.KP.2
  have h3 := h.hn
  rw [(hc.hit.hb (s := s) (n := n) (by omega) (by omega)).2.2 p]
  unfold QP
  simp only [Bool.and_eq_true, decide_eq_true_eq]
  exact ⟨fun e => ⟨e.1.1.2, e.2⟩, fun e => ⟨⟨⟨hp, e.1⟩, aa⟩, e.2⟩⟩
end
section
variable {n : Nat} {wide : Int} {q S H : List Int} {w v : Int} {ws hs : List (List Int)}
theorem Uk (h : JC n q S H) (_hn : n ≤ 30) (hr : QJ wide q S H w v S.length ws hs) {y : Int} (hy : 0 ≤ y ∧ y < (H.length : Int)) : (∃ i, i < hs.length ∧ y ∈ hs.getD i []) ↔ UG wide q w v (H.getD y.toNat 0) ≠ [] := by
  have hl := h.len
  have hS := hr.2.1
  constructor
  · rintro ⟨i, h1, h2⟩ he
    rw [(hr.2.2 i (by omega)).2.2.2 y hy] at h2
    have KP := h.SK (show i < S.length by omega)
    have : S.getD i 0 ∈ UG wide q w v (H.getD y.toNat 0) := Lz.2 ⟨by omega, h2⟩
    rw [he] at this; exact nomatch this
  · intro he
    obtain ⟨s, KP⟩ := List.exists_mem_of_ne_nil _ he
    obtain ⟨h1, h2⟩ := Lz.1 KP
    have hm : s ∈ S := by
      rw [h.st, J1]
      exact ⟨by omega, Ur h2⟩
    obtain ⟨i, i1, i2⟩ := List.getElem_of_mem hm
    have e : S.getD i 0 = s := by rw [List.getD_eq_getElem?_getD, List.getElem?_eq_getElem i1, Option.getD_some, i2]
    exact ⟨i, by omega, ((hr.2.2 i i1).2.2.2 y hy).2 (by rw [e]; exact h2)⟩
theorem R3 : ∀ (tl acc : List Int), (∀ y ∈ tl, 0 ≤ y ∧ y < (H.length : Int)) → acc.length + tl.length ≤ 100000 → Cc H tl acc = some (acc ++ tl.map fun y => H.getD y.toNat 0)
  | [], acc, _, _ => by rw [List.map_nil, List.append_nil]; rfl
  | y :: tl, acc, hy, ha => by
    simp only [List.length_cons] at ha
    have := hy y (by simp)
    unfold Cc
    rw [WV 0 _ this.1 this.2, Iv (by simp only [List.length_append, List.length_singleton]; omega), R3 tl _ (fun z hz => hy z (by simp [hz])) (by simp; omega), List.append_assoc]
    rfl
theorem OS {P L6 : List Int} {e : Int} {D : List Int} {l8 Lo : List (Int × Int)} (aa : CK wide w v q S P L6 e l8 = some true) : ∀ tl : List Int, (∀ y ∈ tl, (0 ≤ y ∧ y < (H.length : Int)) ∧ (H.getD y.toNat 0 ∈ D ↔ ((0 : Int), y) ∈ Lo)) → Cb wide w v q S H P L6 e D l8 Lo tl = some true
  | [], _ => aa
  | y :: tl, hy => by
    obtain ⟨h1, h2⟩ := hy y (by simp)
    unfold Cb
    rw [WV 0 _ h1.1 h1.2, contains_eq, Aw, Qt, Aw, if_neg fun GV => GV (decide_eq_decide.2 h2)]
    exact OS aa tl fun z hz => hy z (by simp [hz])
theorem PY {P L6 : List Int} : ∀ (tl : List (Int × Int)) (m : List (Int × Bool)), (∀ x ∈ tl, 0 ≤ x.1 ∧ x.1 < (S.length : Int)) →
    (∀ m', (∀ k, AZ m k = some true → AZ m' k = some true) → (∀ x ∈ tl, AZ m' (S.getD x.1.toNat 0) = some true) → C2 wide w v q P L6 m' = some true) → B5 wide w v q S P L6 tl m = some true
  | [], m, _, hj => hj m (fun _ h => h) (fun _ h => (nomatch h))
  | x :: tl, m, hx, hj => by
    have h1 := hx x (by simp)
    unfold B5
    rw [if_neg (by omega), Aw, if_neg (by simp only [decide_eq_true_eq]; omega), WV 0 _ h1.1 h1.2, J2]
    refine PY tl _ (fun z hz => hx z (by simp [hz])) fun m' k1 k2 => hj m' (fun k hk => k1 k ?_) fun z hz => ?_
    · rw [HA]; split
      · rfl
      · exact hk
    · rcases List.mem_cons.1 hz with rfl | hz
      · refine k1 _ ?_
        rw [HA, if_pos rfl]
      · exact k2 z hz
theorem Od {f : Int → Option Bool} {g : Int → Bool} (hf : ∀ x, f x = some (g x)) : ∀ (l : List Int) (k : Int), 0 ≤ k → ∃ r, Bw f l k = some r ∧ (0 ≤ r ↔ ∃ x ∈ l, g x = true)
  | [], k, _ => ⟨-1, rfl, by simp⟩
  | x :: l, k, hk => by
    unfold Bw
    rw [hf x, Aw]
    by_cases e : g x = true
    · rw [if_pos e]; exact ⟨k, rfl, by simp [e, hk]⟩
    · rw [if_neg e]
      obtain ⟨r, h1, h2⟩ := Od hf l (k + 1) (by omega)
      exact ⟨r, h1, by rw [h2]; simp [e]⟩
theorem P7 {L6 : List Int} {m : List (Int × Bool)} (hq : q.length ≤ 1000) (hc : Mv wide q = 0) (hw : okW w) (hv : 1 ≤ v ∧ v ≤ 40) (hj : C1 L6 m = some true) : ∀ tl : List Int, (∀ x ∈ tl, ((0 ≤ x ∧ x < q.length) ∧ q.getD x.toNat 0 = 1) ∧ ∃ s ∈ UG wide q w v x, AZ m s = some true) → B3 wide w v q L6 m tl = some true
  | [], _ => hj
  | x :: tl, hx => by
    obtain ⟨h1, s, h2, h3⟩ := hx x (by simp)
    have hE : Sm wide q w v x = 0 := by
      unfold Sm
      rw [Oa hc hw hv, if_neg (by decide)]
      exact SA h1
    unfold B3
    obtain ⟨r, r1, r2⟩ := Od (f := fun aa : Int => Dj aa m) (g := fun x => (AZ m x).getD false) (fun _ => rfl) (UG wide q w v x) 0 (by omega)
    rw [Um hq, BY, hE, if_neg (by decide), if_pos rfl]
    show b1 (b1 (C0 (UG wide q w v x) _) _) _ = _
    unfold C0 Ee
    rw [r1, Aw, Aw, Aw, decide_eq_true (r2.2 ⟨s, h2, by show (AZ m s).getD false = true; rw [h3]; rfl⟩), if_neg (by decide)]
    exact P7 hq hc hw hv hj tl fun z hz => hx z (by simp [hz])
theorem UJ {κ δ : Type} [DecidableEq κ] {m : List (κ × δ)} {k : κ} {x : δ} (h : AZ m k = some x) : (k, x) ∈ m := by
  unfold AZ at h
  obtain ⟨p, h1, h2⟩ := Option.map_eq_some_iff.1 h
  have h3 := List.find?_some h1
  have h4 := List.mem_of_find?_eq_some h1
  have : p.1 = k := by simpa using h3
  rwa [← this, ← h2]
theorem VG {metal : List Int} (hm : (metal.length : Int) ≤ 9223372036854775807) (h : JC n q S H) (hc : Mv wide q = 0) (hn : n ≤ 30) (hw : okW w) (hv : 1 ≤ v ∧ v ≤ 40) (hH : H.length ≠ 0) {a t : Int} (ha : Jj metal a) (hr : QJ wide q S H w v S.length ws hs) : CM metal wide w v q S H a t ws hs = some true := by
  have hl := h.len
  have h5 := h.h5
  have bb := h.s5
  have hS : 1 ≤ S.length := by
    obtain ⟨s, s1, s2⟩ := h.one
    have : (s : Int) ∈ S := by rw [h.st, J1, Int.toNat_natCast]; exact ⟨by omega, s2⟩
    exact List.length_pos_of_mem this
  obtain ⟨r, a1, t1, r1, r2, r3⟩ := TC hm (t := t) ha (n := H.length) (by omega)
  have bc := r2.1
  obtain ⟨k, a2, t2, k1, k2, k3, k4⟩ := Ie (t := t1) (lo := 1) (hi := (r.length : Int)) r3 hm (by omega) (by omega)
  obtain ⟨d, a3, t3, d1, d2, d3, d4⟩ := Ie (t := t2) (lo := 1) (hi := 3) k4 hm (by omega) (by omega)
  unfold CM
  rw [r1, Dg, k1, Dg, Bp ⟨by omega, by omega⟩, J2, Tc, d1, Dg]
  generalize hQ : r.take k.toNat = Q
  have bg : Q.length = k.toNat := by rw [← hQ, List.length_take]; omega
  have ak : Q.Nodup := by rw [← hQ]; exact r2.2.1.sublist (List.take_sublist ..)
  have aa : ∀ y ∈ Q, 0 ≤ y ∧ y < (H.length : Int) := fun y hy => r2.2.2 y (by rw [← hQ] at hy; exact List.mem_of_mem_take hy)
  have hP := R3 (H := H) Q [] aa (by simp; omega)
  rw [List.nil_append] at hP
  rw [hP, Aw]
  generalize al : (Q.map fun y => H.getD y.toNat 0) = P
  have ae : ∀ x, x ∈ P ↔ ∃ y ∈ Q, H.getD y.toNat 0 = x := fun x => by rw [← al, List.mem_map]
  have ao : ∀ x ∈ P, (0 ≤ x ∧ x < q.length) ∧ q.getD x.toNat 0 = 1 := fun x hx => by
    obtain ⟨y, y1, rfl⟩ := (ae x).1 hx
    have := aa y y1
    have := h.Co (show y.toNat < H.length by omega)
    exact ⟨by omega, this.2⟩
  have au : Hs wide q w v P := ⟨hc, hw, hv, ao, by
    rw [← al]
    refine List.Pairwise.map _ (R := fun a b => a ∈ Q ∧ b ∈ Q ∧ a ≠ b) (fun a b av e => ?_) ?_
    · obtain ⟨x1, x2, x3⟩ := av
      have g1 := aa a x1
      have g2 := aa b x2
      have := Pf h.sorted (by omega) (by omega) e
      omega
    · exact List.Pairwise.and_mem.1 ak⟩
  have aw : ∀ x ∈ [(Q, d, (200 : Int))], X4 (H.length : Int) x := fun x hx => by
    rw [List.mem_singleton.1 hx]
    exact ⟨⟨by show 1 ≤ Q.length; omega, ak, aa⟩, ⟨d2, by show d ≤ 5; omega⟩, by show (0 : Int) ≤ 200 ∧ (200 : Int) ≤ 200; omega⟩
  have hB : GU ws hs (H.length : Int) 0 [(Q, d, 200)] := {
    KP := by rw [hr.2.1]; omega
    hw := by rw [hr.1, hr.2.1]
    hH := by omega
    H9 := by rw [hr.2.1]; omega
    row := fun i hi => by
      have ax : i < S.length := by rw [hr.1] at hi; exact hi
      have := (hr.2.2 i ax).1
      refine ⟨by rw [this.1, hr.2.1], fun j hj => ?_⟩
      have := this.2 j (by rw [hr.2.1] at hj; exact hj)
      exact ⟨this.1, fun e => .inr (by have := this.2 e; omega)⟩
    Yk := fun l ah => by
      obtain ⟨i, i1, i2⟩ := List.getElem_of_mem ah
      have e : hs.getD i [] = l := by rw [List.getD_eq_getElem?_getD, List.getElem?_eq_getElem i1, Option.getD_some, i2]
      have := (hr.2.2 i (by rw [hr.2.1] at i1; exact i1)).2
      rw [e] at this
      exact ⟨this.1, this.2.1⟩
    hn := by simp
    note := aw
    YC := by show Q.length + 0 ≤ 9; omega }
  obtain ⟨c, ps, hit, e, hC, hE⟩ := Uw hB (B := 5) fun i j hi hj => by
    rw [hr.2.1] at hi hj
    unfold E0
    rw [hr.1, if_pos ⟨hi, hj⟩]
    have := (hr.2.2 i hi).1.2 j hj
    by_cases e : i = j
    · rw [this.1 e]; omega
    · have := this.2 e; omega
  have hN : ∀ i, i < ps.length → (ps.getD i (0, 0)).1 = 0 ∧ (ps.getD i (0, 0)).2 ∈ Q := fun i hi => by
    have := (hC.YB.mem _).1 (FK (d := (0, 0)) hi)
    have e0 : (ps.getD i (0, 0)).1 = 0 := by have := this.1; simp only [List.length_singleton] at this; omega
    refine ⟨e0, ?_⟩
    have h2 := this.2
    rw [e0] at h2; exact h2
  have ai : ∀ y, ((0 : Int), y) ∈ ps ↔ y ∈ Q := fun y => by
    rw [hC.YB.mem]
    exact ⟨fun e => e.2, fun e => ⟨⟨Int.le_refl _, by show (0 : Int) < 1; omega⟩, e⟩⟩
  have hW : ∀ i, i < [(Q, d, (200 : Int))].length → 1 ≤ Hi [(Q, d, 200)] i ∧ Hi [(Q, d, 200)] i ≤ 5 := fun i hi => OH hB hi
  have ay : ∀ i, i < [(Q, d, (200 : Int))].length → 200 ≤ Vv [(Q, d, 200)] 200 i := fun i hi => by
    rw [VK hB hi]
    obtain rfl : i = 0 := by simp only [List.length_singleton] at hi; omega
    exact Int.le_refl _
  have H9 : ∀ y ∈ Q, ((∃ i, i < hs.length ∧ y ∈ hs.getD i []) ↔ UG wide q w v (H.getD y.toNat 0) ≠ []) := fun y hy => Uk h hn hr (aa y hy)
  -- lost, or deaf
  have ad : ∀ y ∈ Q, (0 ≤ y ∧ y < (H.length : Int)) ∧ (H.getD y.toNat 0 ∈ Dc (L9 wide q w v) q.length ↔ ((0 : Int), y) ∈ ps.filter (Xn ws hs (H.length : Int) 0 [(Q, d, 200)] c ps hit)) := fun y hy => by
    refine ⟨aa y hy, ?_⟩
    have bh := aa y hy
    have hh := h.Co (show y.toNat < H.length by omega)
    have az : H.getD y.toNat 0 ∈ Dc (L9 wide q w v) q.length ↔ UG wide q w v (H.getD y.toNat 0) = [] := by
      rw [JZ]
      unfold L9
      rw [Bool.and_eq_true, decide_eq_true_iff, decide_eq_true_iff]
      exact ⟨fun e => e.2.2, fun e => ⟨by omega, hh.2, e⟩⟩
    obtain ⟨u, u1, u2⟩ := R7 hB hC (q := ((0 : Int), y)) (by show (0 : Int) ≤ 0 ∧ (0 : Int) < 1; omega)
    have ah : Xn ws hs (H.length : Int) 0 [(Q, d, 200)] c ps hit ((0 : Int), y) = true ↔ ¬ (0 ≤ u ∧ u ≤ 200) := by
      unfold Xn
      rw [u1]
      show (!decide (0 ≤ u ∧ u ≤ 200)) = true ↔ _
      rw [Bool.not_eq_true', decide_eq_false_iff_not]
    rw [az, List.mem_filter, ai, ah, u2.le fun e he => PT.pos hB hC (by show (0 : Int) ≤ 0 ∧ (0 : Int) < 1; omega) he]
    have := H9 y hy
    constructor
    · rintro h0
      refine ⟨hy, ?_⟩
      rintro ⟨_, ⟨s, _, s2, _, s4, _⟩, _⟩
      exact this.1 ⟨s, s2, s4⟩ h0
    · rintro ⟨_, h1⟩
      refine Classical.byContradiction fun h0 => h1 ?_
      obtain ⟨s, s1, s2⟩ := this.2 h0
      have g1 := hE 0 s (by rw [hr.2.1]; omega) s1
      have g2 := hW 0 (by simp)
      exact ⟨_, ⟨s, s1, s1, g1.1, s2, rfl⟩, by
        show en c 0 s + Hi [(Q, d, 200)] 0 ≤ 200
        omega⟩
  rw [W7 (by omega), Oa hc hw hv, if_pos rfl, Wn hB e hC]
  rcases XD au with ⟨⟨x, x1, x2⟩, f1⟩ | ⟨x1, L, f1, f2⟩
  · -- a deaf house
    rcases TQ hB e hC with ⟨af, ab⟩ | ⟨l, m, af, ab, _⟩
    · rw [f1, BY, BY, af, Dg, BY, if_neg (by decide), if_neg (by decide), if_pos (by decide), if_neg (by decide), Aw, if_neg (by decide)]
      refine OS ?_ Q ad
      unfold CK
      rw [if_pos (by decide), OY, Aw]
    · exfalso
      obtain ⟨es, g1, g2, g3, _⟩ := ab.can
      obtain ⟨y, y1, rfl⟩ := (ae x).1 x1
      obtain ⟨p, p1, p2⟩ := List.getElem_of_mem ((ai y).2 y1)
      have pe : ps.getD p (0, 0) = (0, y) := by rw [List.getD_eq_getElem?_getD, List.getElem?_eq_getElem p1, Option.getD_some, p2]
      obtain ⟨z, z1, z2⟩ := ON (Ll.1 g3 p (by rw [Nat.testBit_two_pow_sub_one, decide_eq_true_iff]; exact p1))
      obtain ⟨z3, z4⟩ := g1 z z1
      rw [O6 hB hC p1 (by omega) (by omega), pe] at z2
      exact (H9 y y1).1 ⟨_, by omega, z2.2⟩ x2
  · -- each house is heard
    have aj : Can c [(Q, d, 200)] hit hs 0 (Vv [(Q, d, 200)] 200) (2 ^ ps.length - 1) := by
      have aq : L8 hs.length [(Q, d, (200 : Int))].length ((List.range hs.length).map fun s : Nat => ((s : Int), (0 : Int))) := fun z hz => by
        obtain ⟨s, s1, rfl⟩ := List.mem_map.1 hz
        rw [List.mem_range] at s1
        exact ⟨by show (0 : Int) ≤ s ∧ (s : Int) < hs.length; omega, by show (0 : Int) ≤ 0 ∧ (0 : Int) < 1; omega⟩
      obtain ⟨⟨es, g1⟩, g2⟩ := Yu (c := c) (hit := hit) (S := hs.length) (B := 200) (fun i k hi hk => by have := hE i k hi hk; omega) hW ay _ 0 0 aq (by rw [hr.2.1]; omega) (by
        rw [List.length_map, List.length_range, hr.2.1]; omega)
      refine ⟨_, es, aq, g1, Ll.2 fun p hp => ?_⟩
      rw [Nat.testBit_two_pow_sub_one, decide_eq_true_iff] at hp
      obtain ⟨h1, h2⟩ := hN p hp
      obtain ⟨s, s1, s2⟩ := (H9 _ h2).2 (x1 _ ((ae _).2 ⟨_, h2, rfl⟩))
      refine g2 p ((s : Int), 0) (List.mem_map.2 ⟨s, List.mem_range.2 s1, rfl⟩) ?_
      exact (O6 hB hC hp s1 (by simp)).2 ⟨h1, s2⟩
    rcases TQ hB e hC with ⟨_, ab⟩ | ⟨l, m, af, ab, _⟩
    · obtain ⟨l, m, g⟩ := (Wv hB hC).1 aj
      exact absurd g (ab l m)
    · rw [f1, BY, BY, af, Dg, BY, if_neg (by decide), if_neg (by decide), if_neg (by decide), Aw, if_neg (by decide)]
      refine OS ?_ Q ad
      obtain ⟨es, g1, g2, g3, _⟩ := ab.can
      unfold CK
      rw [if_neg (by decide)]
      refine PY l [] (fun z hz => by have := (g1 z hz).1; rw [hr.2.1] at this; exact this) fun mm _ ba => ?_
      have ar : ∀ x ∈ P, ((0 ≤ x ∧ x < q.length) ∧ q.getD x.toNat 0 = 1) ∧ ∃ s ∈ UG wide q w v x, AZ mm s = some true := fun x hx => by
        refine ⟨ao x hx, ?_⟩
        obtain ⟨y, y1, rfl⟩ := (ae x).1 hx
        obtain ⟨p, p1, p2⟩ := List.getElem_of_mem ((ai y).2 y1)
        have pe : ps.getD p (0, 0) = (0, y) := by rw [List.getD_eq_getElem?_getD, List.getElem?_eq_getElem p1, Option.getD_some, p2]
        obtain ⟨z, z1, z2⟩ := ON (Ll.1 g3 p (by rw [Nat.testBit_two_pow_sub_one, decide_eq_true_iff]; exact p1))
        obtain ⟨z3, z4⟩ := g1 z z1
        rw [O6 hB hC p1 (by omega) (by omega), pe] at z2
        rw [hr.2.1] at z3
        have hh := ((hr.2.2 z.1.toNat (by omega)).2.2.2 y (aa y y1)).1 z2.2
        have KP := h.SK (show z.1.toNat < S.length by omega)
        exact ⟨_, Lz.2 ⟨by omega, hh⟩, ba z z1⟩
      unfold C2
      refine P7 (by omega) hc hw hv ?_ P ar
      unfold C1
      have hle : L.length ≤ mm.length := (Wp f2).2 ⟨mm.map (·.1.toNat), by simp, fun x hx => by
        obtain ⟨_, s, s1, s2⟩ := ar x hx
        have h1 := Lz.1 s1
        refine ⟨s.toNat, List.mem_map.2 ⟨_, UJ s2, rfl⟩, by omega, (Uu (by omega) (by omega)).2 ⟨by omega, h1.2⟩⟩⟩
      rw [if_pos (by rw [List.length_map]; omega), OY, Aw]
theorem Ph {numbers walks : List Int} (hm : (numbers.length : Int) ≤ 9223372036854775807) (aa : (walks.length : Int) ≤ 9223372036854775807) : DA numbers walks = some true := by
  unfold DA HW
  obtain ⟨wide, ps, a1, t1, e1, hc, hl, hs, ha⟩ := YtfmapnhfamoecabGreat.Ww (metal := numbers) (a := 0) (t := 0) (plots := 12) ⟨by omega, by omega⟩ hm (by omega)
  obtain ⟨w, v, a2, t2, e2, hw, hv, _⟩ := YtfmapnhfamoecabGreat.Wa (t := t1) ha hm
  have ab : ps.all TA = true := by
    unfold Go.Hear.Mv at hc
    split at hc
    · exact absurd hc (by decide)
    · split at hc
      · exact absurd hc (by decide)
      · rename_i h; exact Classical.not_not.1 h
  obtain ⟨q, S, H, e3, h⟩ := MK (n := ps.length) (by omega) ps.length 0 ps (by omega) rfl ab (Nat.zero_le _) (Nat.zero_le _) hs
  have ad : A9 (Int.toNat ((ps.length : Int) - 0)) 0 ps [] [] = some (q, S, H) := by
    rw [show Int.toNat ((ps.length : Int) - 0) = ps.length by omega]; exact e3
  rw [Dg, Dg, e1, Ti, e2, Ti, Bp ⟨AJ (by omega), AJ (by omega)⟩, ad, Dg]
  by_cases hH : H.length = 0
  · rw [if_pos (by omega), OY, Aw]
  · rw [if_neg (by omega)]
    exact Su aa h (h.Mv hc rfl) (by omega) hw ⟨hv.1, by omega⟩ (fun a t ws hs ha hr => VG aa h (h.Mv hc rfl) (by omega) hw ⟨hv.1, by omega⟩ hH ha hr) S 0 0 0 [] [] rfl (Nat.zero_le _) ⟨by omega, by omega⟩ ⟨rfl, rfl, fun i hi => absurd hi (Nat.not_lt_zero _)⟩
end
end Go.Proofs.YtfmapnhfamoecabGreat.Rd
