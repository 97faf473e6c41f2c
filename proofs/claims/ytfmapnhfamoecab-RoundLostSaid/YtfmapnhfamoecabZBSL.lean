/- The cries that serve something; in plain Lean. -/
import Derived.Test.YtfmapnhfamoecabZBSK
namespace Go.Proofs.Ytfmapnhfamoecab.Rd
open Go.PL
/-- What a cry serves, as a set. -/
def hb (hit : List Int) (s n : Nat) : Nat := (hit.getD (s * 3 + n) 0).toNat
theorem Hit.hb {hit : List Int} {Q : Nat → Nat → Nat → Bool} (h : Hit hit Q) {s n : Nat} (hs : s < 5) (hn : n < 3) : hit.getD (s * 3 + n) 0 = (hb hit s n : Int) ∧ hb hit s n < 512 ∧ ∀ p, (hb hit s n).testBit p = Q s n p := by
  obtain ⟨v, h1, h2, h3⟩ := h.2 s n hs hn
  unfold Rd.hb
  rw [h1, Int.toNat_natCast]
  exact ⟨rfl, h2, h3⟩
def srvA (hit : List Int) (v s : Nat) : Nat → Nat → List ((Int × Int) × Int)
  | 0, _ => []
  | fu + 1, n => if dif v (hb hit s n) = v then srvA hit v s fu (n + 1) else (((s : Int), (n : Int)), (dif v (hb hit s n) : Int)) :: srvA hit v s fu (n + 1)
def srvB (hit : List Int) (v N : Nat) : Nat → Nat → List ((Int × Int) × Int)
  | 0, _ => []
  | fu + 1, s => srvA hit v s N 0 ++ srvB hit v N fu (s + 1)
theorem mem_srvA {hit : List Int} {v s : Nat} {x : (Int × Int) × Int} : ∀ (fu n : Nat), x ∈ srvA hit v s fu n ↔ ∃ m : Nat, n ≤ m ∧ m < n + fu ∧ dif v (hb hit s m) ≠ v ∧ x = (((s : Int), (m : Int)), (dif v (hb hit s m) : Int))
  | 0, n => ⟨fun h => (nomatch h), fun ⟨m, h1, h2, _⟩ => by omega⟩
  | fu + 1, n => by
    unfold srvA
    have ih := mem_srvA (hit := hit) (v := v) (s := s) (x := x) fu (n + 1)
    by_cases c : dif v (hb hit s n) = v
    · rw [if_pos c, ih]
      constructor
      · rintro ⟨m, h1, h2, h3⟩; exact ⟨m, by omega, by omega, h3⟩
      · rintro ⟨m, h1, h2, h3, h4⟩
        by_cases e : m = n
        · rw [e] at h3; exact absurd c h3
        · exact ⟨m, by omega, by omega, h3, h4⟩
    · rw [if_neg c, List.mem_cons, ih]
      constructor
      · rintro (h | ⟨m, h1, h2, h3⟩)
        · exact ⟨n, Nat.le_refl _, by omega, c, h⟩
        · exact ⟨m, by omega, by omega, h3⟩
      · rintro ⟨m, h1, h2, h3, h4⟩
        by_cases e : m = n
        · left; rw [h4, e]
        · right; exact ⟨m, by omega, by omega, h3, h4⟩
theorem mem_srvB {hit : List Int} {v N : Nat} {x : (Int × Int) × Int} : ∀ (fu s : Nat), x ∈ srvB hit v N fu s ↔ ∃ r m : Nat, s ≤ r ∧ r < s + fu ∧ m < N ∧ dif v (hb hit r m) ≠ v ∧ x = (((r : Int), (m : Int)), (dif v (hb hit r m) : Int))
  | 0, s => ⟨fun h => (nomatch h), fun ⟨r, m, h1, h2, _⟩ => by omega⟩
  | fu + 1, s => by
    unfold srvB
    rw [List.mem_append, mem_srvA, mem_srvB fu (s + 1)]
    constructor
    · rintro (⟨m, h1, h2, h3⟩ | ⟨r, m, h1, h2, h3⟩)
      · exact ⟨s, m, Nat.le_refl _, by omega, by omega, h3⟩
      · exact ⟨r, m, by omega, by omega, h3⟩
    · rintro ⟨r, m, h1, h2, h3, h4⟩
      by_cases e : r = s
      · subst e; exact .inl ⟨m, Nat.zero_le _, by omega, h4⟩
      · exact .inr ⟨r, m, by omega, by omega, h3, h4⟩
section
variable {ws hs : List (List Int)} {H st : Int} {ns : List (List Int × Int × Int)} {c : List Int} {ps : List (Int × Int)} {hit : List Int}
theorem served_l3 {Q : Nat → Nat → Nat → Bool} (hh : Hit hit Q) (hn : ns.length ≤ 3) {v : Nat} (hv : v < 512) {s : Nat} (hs5 : s < 5) {rec1 : Int → Option (List ((Int × Int) × Int))} {R : List ((Int × Int) × Int)} (hr : rec1 ((s : Int) + 1) = some R) : ∀ (tl : List (List Int × Int × Int)) (n : Nat), ns.drop n = tl →
    round_crier_served_1_l3 hit (v : Int) (s : Int) rec1 tl (n : Int) = some (srvA hit v s tl.length n ++ R)
  | [], n, _ => by
    unfold round_crier_served_1_l3 round_crier_served_1_j2
    rw [hr]; rfl
  | x :: tl, n, hd => by
    obtain ⟨hj, hx, hd2⟩ := drop_cons ([], 0, 0) hd
    have ih := served_l3 hh hn hv hs5 hr tl (n + 1) hd2
    obtain ⟨b1, b2, _⟩ := hh.hb hs5 (n := n) (by omega)
    have hl := hh.1
    unfold round_crier_served_1_l3
    rw [gd_t (by omega), gd_t (by omega), show (s : Int) * 3 + (n : Int) = ((s * 3 + n : Nat) : Int) by omega, ixN 0 _ (by omega), b1, bandn_nat (by omega) (by omega), List.length_cons]
    unfold srvA
    rw [show ((n + 1 : Nat) : Int) = (n : Int) + 1 from rfl] at ih
    by_cases e : dif v (hb hit s n) = v
    · rw [if_neg (not_not_intro (by rw [e])), if_pos e]; exact ih
    · rw [if_pos (fun e2 => e (by omega)), if_neg e, ih]; rfl
theorem served_l1 {Q : Nat → Nat → Nat → Bool} (hh : Hit hit Q) (h5 : hs.length ≤ 5) (hn : ns.length ≤ 3) {v : Nat} (hv : v < 512) : ∀ (tl : List (List Int)) (s : Nat), hs.drop s = tl →
    round_crier_served_1_l1 ns hit (v : Int) tl (s : Int) = some (srvB hit v ns.length tl.length s)
  | [], s, _ => rfl
  | x :: tl, s, hd => by
    obtain ⟨hj, hx, hd2⟩ := drop_cons [] hd
    have ih := served_l1 hh h5 hn hv tl (s + 1) hd2
    unfold round_crier_served_1_l1
    have e := served_l3 hh hn hv (s := s) (by omega) (rec1 := round_crier_served_1_l1 ns hit (v : Int) tl) ih ns 0 rfl
    rw [List.length_cons]
    exact e
theorem served_eq (h : BtOK ws hs H st ns) (hc : CrOK hs ns c ps hit) {v : Nat} (hv : v < 512) : round_crier_served ws hs H st ns c ps hit (v : Int) = some (srvB hit v ns.length hs.length 0) := by
  unfold round_crier_served round_crier_served_1
  have e : round_crier_served_1_l1 ns hit (v : Int) hs 0 = _ := served_l1 hc.hit h.hs1.2 h.hn hv hs 0 rfl
  rw [e, b1_some]
end
end Go.Proofs.Ytfmapnhfamoecab.Rd
