/- Rounds that serve have ends; in plain Lean. -/
import Derived.Test.YtfmapnhfamoecabZBSU
namespace Go.Proofs.Ytfmapnhfamoecab.Rd
open Go.PL
/-- Where a round ends that begins somewhere. -/
def plc (k : Int) (l : List (Int × Int)) : Int := (l.map (·.1)).getLastD k
theorem plc_snoc (k : Int) (l : List (Int × Int)) (x : Int × Int) : plc k (l ++ [x]) = x.1 := by unfold plc; simp
section
variable {c : List Int} {ns : List (List Int × Int × Int)} {hit : List Int} {bd : Nat → Int} {S : Nat} {start : Int} {v0 : Nat}
theorem ends_snoc {x : Int × Int} : ∀ (l : List (Int × Int)) (k m : Int) (es : List Int), endsF c ns k m l = some es →
    endsF c ns k m (l ++ [x]) = if en c (plc k l).toNat x.1.toNat = -1 then none else some (es ++ [es.getLastD m + en c (plc k l).toNat x.1.toNat + wrd ns x.2.toNat])
  | [], k, m, es, h => by
    obtain rfl : [] = es := Option.some.inj h
    simp only [List.nil_append, endsF, plc, List.map_nil, List.getLastD_nil]
    rfl
  | y :: l, k, m, es, h => by
    unfold endsF at h
    by_cases e : en c k.toNat y.1.toNat = -1
    · rw [if_pos e] at h; cases h
    · rw [if_neg e] at h
      cases h2 : endsF c ns y.1 (m + en c k.toNat y.1.toNat + wrd ns y.2.toNat) l with
      | none => rw [h2] at h; cases h
      | some es2 =>
        rw [h2] at h
        obtain rfl := Option.some.inj h
        have ih := ends_snoc (x := x) l y.1 _ es2 h2
        have ep : plc k (y :: l) = plc y.1 l := by unfold plc; rw [List.map_cons, List.getLastD_cons]
        have el : ((m + en c k.toNat y.1.toNat + wrd ns y.2.toNat) :: es2).getLastD m = es2.getLastD (m + en c k.toNat y.1.toNat + wrd ns y.2.toNat) := by rw [List.getLastD_cons]
        rw [List.cons_append]
        show endsF c ns k m (y :: (l ++ [x])) = _
        unfold endsF
        rw [if_neg e, ih, ep, el]
        by_cases e2 : en c (plc y.1 l).toNat x.1.toNat = -1
        · rw [if_pos e2, if_pos e2]; rfl
        · rw [if_neg e2, if_neg e2]; rfl
theorem Pth.ends {l : List (Int × Int)} {s : Int} {v : Nat} {t : Int} (h : Pth c ns hit bd S start v0 l s v t) : ∃ es, endsF c ns start 0 l = some es ∧ es.getLastD 0 = t ∧ plc start l = s ∧ CryOK S ns.length l ∧ es.length = l.length := by
  induction h with
  | nil => exact ⟨[], rfl, rfl, rfl, fun x hx => (nomatch hx), rfl⟩
  | @snoc l k v s n t h hk hs hn hne hv ih =>
    obtain ⟨es, e1, e2, e3, e4, e5⟩ := ih
    have q := ends_snoc (x := ((s : Int), (n : Int))) l start 0 es e1
    rw [e3, e2, Int.toNat_natCast, Int.toNat_natCast, Int.toNat_natCast, if_neg hv.1] at q
    refine ⟨_, q, by simp, plc_snoc .., fun x hx => ?_, by simp [e5]⟩
    rcases List.mem_append.1 hx with hx | hx
    · exact e4 x hx
    · rw [List.mem_singleton.1 hx]
      exact ⟨⟨by show 0 ≤ (s : Int); omega, by show (s : Int) < (S : Int); omega⟩, ⟨by show 0 ≤ (n : Int); omega, by show (n : Int) < (ns.length : Int); omega⟩⟩
end
end Go.Proofs.Ytfmapnhfamoecab.Rd
