/- RoundServed; in plain Lean. -/
import Derived.Test.YtfmapnhfamoecabZBSZ
namespace Go.Proofs.Ytfmapnhfamoecab.Rd
open Go.PL Go.Proofs.Ytfmapnhfamoecab.Rv
theorem awake_eq : oyezlaw03_awake = some true := by decide +kernel
section
variable {ws hs : List (List Int)} {H st : Int} {ns : List (List Int × Int × Int)} {c : List Int} {ps : List (Int × Int)} {hit : List Int} {bd : Nat → Int} {D : Nat → Bool}
theorem gone_l1 {metal : List Int} (hm : (metal.length : Int) ≤ 9223372036854775807) (h5 : 1 ≤ hs.length ∧ hs.length ≤ 5) (h3 : ns.length ≤ 3) : ∀ (fu : Nat) (a t : Int) (out : List (Int × Int)), BellA metal a → out.length + fu ≤ 100 → CryOK hs.length ns.length out → ∃ out' a' t', oyezlaw03_gone_l1 metal hs ns fu a t out = some (out', a', t') ∧ BellA metal a' ∧ CryOK hs.length ns.length out' ∧ out'.length ≤ out.length + fu
  | 0, a, t, out, ha, _, ho => ⟨out, a, t, rfl, ha, ho, Nat.le_refl _⟩
  | fu + 1, a, t, out, ha, hl, ho => by
    unfold oyezlaw03_gone_l1
    by_cases hn : 0 < ns.length
    · obtain ⟨n2, a2, t2, e2, p1, p2, p3⟩ := stroke_ok (t := t) (n := (hs.length : Int) - 1) ha hm (by omega)
      obtain ⟨n3, a3, t3, e3, q1, q2, q3⟩ := stroke_ok (t := t2) (n := (ns.length : Int) - 1) p3 hm (by omega)
      rw [if_pos (by omega), gd_t (r64_small (by omega)), gd_t (r64_small (by omega)), e2, b3_some, e3, b3_some, ap_t (by simp; omega)]
      obtain ⟨out', a', t', g1, g2, g3, g4⟩ := gone_l1 hm h5 h3 fu a3 t3 (out ++ [(n2, n3)]) q3 (by simp; omega) (fun x hx => by
        rcases List.mem_append.1 hx with hx | hx
        · exact ho x hx
        · rw [List.mem_singleton.1 hx]
          exact ⟨⟨p1, by show n2 < _; omega⟩, ⟨q1, by show n3 < _; omega⟩⟩)
      rw [List.length_append, List.length_singleton] at g4
      exact ⟨out', a', t', g1, g2, g3, by omega⟩
    · rw [if_neg (by omega)]
      obtain ⟨out', a', t', g1, g2, g3, g4⟩ := gone_l1 hm h5 h3 fu a t out ha (by omega) ho
      exact ⟨out', a', t', g1, g2, g3, by omega⟩
theorem cries_ok {metal : List Int} (hm : (metal.length : Int) ≤ 9223372036854775807) (h : BtOK ws hs H st ns) {a t : Int} (ha : BellA metal a) {n : Int} (hn : 0 ≤ n ∧ n ≤ 20) : ∃ l a' t', oyezlaw03_gone metal a t ws hs H st ns n = some (l, a', t') ∧ BellA metal a' ∧ CryOK hs.length ns.length l ∧ l.length ≤ 20 := by
  obtain ⟨v, a1, t1, e1, p1, p2, p3⟩ := stroke_ok (t := t) (n := n) ha hm (by omega)
  obtain ⟨l, a', t', g1, g2, g3, g4⟩ := gone_l1 hm h.hs1 h.hn v.toNat a1 t1 [] p3 (by simp; omega) (fun x hx => (nomatch hx))
  unfold oyezlaw03_gone
  rw [e1, b3_some, gd_t ⟨r64_small (by omega), r64_small (by omega)⟩, show Int.toNat (v - 0) = v.toNat by omega, g1, b3_some]
  exact ⟨l, a', t', rfl, g2, g3, by rw [List.length_nil] at g4; omega⟩
theorem selP_len (T : List Nat) : (selP ps T).length = T.length := List.length_map ..
end
end Go.Proofs.Ytfmapnhfamoecab.Rd
