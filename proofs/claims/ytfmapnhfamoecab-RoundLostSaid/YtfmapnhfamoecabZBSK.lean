/- A beat is opened; in plain Lean. -/
import Derived.Test.YtfmapnhfamoecabZBSJ
namespace Go.Proofs.Ytfmapnhfamoecab.Rd
open Go.PL
/-- The pairs of the first notices. -/
structure PrsOK (ns : List (List Int × Int × Int)) (j : Nat) (ps : List (Int × Int)) : Prop where
  len : ps.length = total (ns.take j)
  nodup : ps.Nodup
  mem : ∀ q : Int × Int, q ∈ ps ↔ (0 ≤ q.1 ∧ q.1 < (j : Int)) ∧ q.2 ∈ (ns.getD q.1.toNat ([], 0, 0)).1
theorem total_app (a b : List (List Int × Int × Int)) : total (a ++ b) = total a + total b := by unfold total; simp
theorem total_take (ns : List (List Int × Int × Int)) (j : Nat) : total (ns.take j) ≤ total ns := by
  have := total_app (ns.take j) (ns.drop j)
  rw [List.take_append_drop] at this; omega
section
variable {ws hs : List (List Int)} {H st : Int} {ns : List (List Int × Int × Int)}
theorem open_l4 (h : BtOK ws hs H st ns) : ∀ (tl : List (List Int × Int × Int)) (j : Nat) (ps : List (Int × Int)) (hit : List Int), ns.drop j = tl → PrsOK ns j ps → j ≤ ns.length → Hit hit (QP hs ps) →
    ∃ ps' hit', round_opened_l4 hs tl (j : Int) ps hit = some (ps', hit') ∧ PrsOK ns ns.length ps' ∧ Hit hit' (QP hs ps')
  | [], j, ps, hit, hd, hp, hj, hh => by
    have : ns.length = j := by
      have := congrArg List.length hd
      rw [List.length_drop, List.length_nil] at this; omega
    exact ⟨ps, hit, rfl, by rw [this]; exact hp, hh⟩
  | x :: tl, j, ps, hit, hd, hp, _, hh => by
    obtain ⟨hj, hx, hd2⟩ := drop_cons ([], 0, 0) hd
    have hn := h.hn
    have htot := h.tot
    have hx' := h.note x (by rw [← hx]; exact getD_mem hj)
    have e0 : ns.take (j + 1) = ns.take j ++ [x] := by rw [List.take_add_one, getD_of (d := ([], 0, 0)) hj, hx]; rfl
    have e1 : total (ns.take (j + 1)) = total (ns.take j) + x.1.length := by rw [e0, total_snoc]
    have e2 := total_take ns (j + 1)
    have hpl := hp.len
    obtain ⟨R, r1, r2, _⟩ := sortedS_eq (s := x.1) (by omega)
    rw [values_eq, b1_some] at r1
    have hRl : R.length = x.1.length := r2.length_eq
    obtain ⟨hit', g1, g2⟩ := hit_l5 h.hs1.2 (k4 := j) (by omega) R ps hit (by omega) hh
    unfold round_opened_l4
    rw [values_eq, b1_some, r1, b1_some, g1, b2_some]
    refine open_l4 h tl (j + 1) _ hit' hd2 ⟨?_, ?_, fun q => ?_⟩ hj g2
    · rw [List.length_append, List.length_map, hRl, e1, hpl]
    · rw [List.nodup_append]
      refine ⟨hp.nodup, ?_, fun a ha b hb he => ?_⟩
      · refine List.Pairwise.map _ (fun a b hab he => hab (Prod.mk.inj he).2) (r2.symm.nodup hx'.1.2.1)
      · obtain ⟨y, _, rfl⟩ := List.mem_map.1 hb
        have := ((hp.mem a).1 ha).1
        rw [he] at this
        exact absurd this.2 (by show ¬ (j : Int) < (j : Int); omega)
    · rw [List.mem_append, hp.mem, List.mem_map]
      constructor
      · rintro (⟨h1, h2⟩ | ⟨y, h1, rfl⟩)
        · exact ⟨⟨h1.1, by omega⟩, h2⟩
        · refine ⟨⟨by show 0 ≤ (j : Int); omega, by show (j : Int) < ((j + 1 : Nat) : Int); omega⟩, ?_⟩
          show y ∈ (ns.getD (j : Int).toNat ([], 0, 0)).1
          rw [Int.toNat_natCast, hx]; exact r2.subset h1
      · rintro ⟨h1, h2⟩
        by_cases c : q.1 < (j : Int)
        · exact .inl ⟨⟨h1.1, c⟩, h2⟩
        · have e : q.1 = (j : Int) := by omega
          rw [e, Int.toNat_natCast, hx] at h2
          exact .inr ⟨q.2, r2.symm.subset h2, by rw [← e]⟩
/-- A crier at work. -/
structure CrOK (hs : List (List Int)) (ns : List (List Int × Int × Int)) (c : List Int) (ps : List (Int × Int)) (hit : List Int) : Prop where
  fin : Fin5 hs.length c
  prs : PrsOK ns ns.length ps
  hit : Hit hit (QP hs ps)
theorem opened_eq (h : BtOK ws hs H st ns) : ∃ c ps hit, round_opened ws hs H st ns = some (some (ws, hs, H, st, ns, c, ps, hit), 0) ∧ CrOK hs ns c ps hit := by
  obtain ⟨c0, a, c, e1, e2, e3, hc⟩ := walks_ok h
  have h0 : PrsOK ns 0 [] := ⟨rfl, List.nodup_nil, fun q => ⟨fun hq => (nomatch hq), fun hq => absurd hq.1 (by omega)⟩⟩
  have hz : Hit (List.replicate 15 0) (QP hs []) := Hit.zero.congr fun s n p _ _ => by unfold QP; simp
  obtain ⟨ps, hit, e4, hp, hh⟩ := open_l4 h ns 0 [] (List.replicate 15 0) rfl h0 (Nat.zero_le _) hz
  have e4' : round_opened_l4 hs ns 0 [] (List.replicate 15 0) = some (ps, hit) := e4
  refine ⟨c, ps, hit, ?_, hc, hp, hh⟩
  unfold round_opened
  rw [Check_eq h, b1_some, if_neg (by decide), gd_t ⟨r64_small (by omega), r64_small (by omega)⟩, e1, b1_some, e2, b1_some, e3, b1_some, e4', b2_some]
end
end Go.Proofs.Ytfmapnhfamoecab.Rd
