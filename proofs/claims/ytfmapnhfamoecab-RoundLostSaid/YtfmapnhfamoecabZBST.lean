/- The best round, and sets of pairs; in plain Lean. -/
import Derived.Test.YtfmapnhfamoecabZBSR
namespace Go.Proofs.Ytfmapnhfamoecab.Rd
open Go.PL
/-- The last minute for a notice. -/
def bdL (ns : List (List Int × Int × Int)) (last : Int) (n : Nat) : Int := if (ns.getD n ([], 0, 0)).2.2 < last then (ns.getD n ([], 0, 0)).2.2 else last
theorem bdL_le {ns : List (List Int × Int × Int)} {last : Int} (hl : last ≤ 1000) (n : Nat) : bdL ns last n ≤ 1000 := by unfold bdL; split <;> omega
section
variable {ws hs : List (List Int)} {H st : Int} {ns : List (List Int × Int × Int)} {c : List Int} {ps : List (Int × Int)} {hit : List Int}
/-- A round that leaves nothing of a set, of which each cry serves something, and that ends then. -/
def Ser (c : List Int) (ns : List (List Int × Int × Int)) (hit : List Int) (hs : List (List Int)) (st : Int) (bd : Nat → Int) (v : Nat) (l : List (Int × Int)) (t : Int) : Prop := ∃ s, Pth c ns hit bd hs.length st v l s 0 t
theorem by_ok (last : Int) : ∀ (n : Nat) (m : Int), n < ns.length → (fun xx_ : Int × Int => round_crier_by_1 xx_.1 xx_.2 last ws hs H st ns c ps hit) ((n : Int), m) = some (decide (m ≤ bdL ns last n)) := fun n m hn => by
  show round_crier_by_1 (n : Int) m last ws hs H st ns c ps hit = _
  unfold round_crier_by_1
  rw [ixN ([], 0, 0) _ hn]
  rfl
theorem all_eq (hp : ps.length ≤ 9) : round_crier_all ws hs H st ns c ps hit = some ((2 ^ ps.length - 1 : Nat) : Int) := by
  have h1 : 1 ≤ (2 : Nat) ^ ps.length := Nat.one_le_two_pow
  have h2 : (2 : Nat) ^ ps.length ≤ 2 ^ 9 := Nat.pow_le_pow_right (by decide) hp
  have h3 : (2 : Nat) ^ 9 = 512 := by decide
  have h4 : (((2 : Nat) ^ ps.length : Nat) : Int) - 1 = ((2 ^ ps.length - 1 : Nat) : Int) := by omega
  unfold round_crier_all
  rw [gd_t (shl_r (by omega)), shl_nat, h4, gd_t (r64_small (by omega))]
theorem CrOK.nine (h : BtOK ws hs H st ns) (hc : CrOK hs ns c ps hit) : ps.length ≤ 9 := by
  have h1 := hc.prs.len
  have h2 := total_take ns ns.length
  have h3 := h.tot
  omega
theorem full_lt (hp : ps.length ≤ 9) : 2 ^ ps.length - 1 < 512 := by
  have h1 : 1 ≤ (2 : Nat) ^ ps.length := Nat.one_le_two_pow
  have h2 : (2 : Nat) ^ ps.length ≤ 2 ^ 9 := Nat.pow_le_pow_right (by decide) hp
  have h3 : (2 : Nat) ^ 9 = 512 := by decide
  omega
end
end Go.Proofs.Ytfmapnhfamoecab.Rd
