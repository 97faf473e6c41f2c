/- Layer 7: a cry more; BookCried; in plain Lean. -/
import Derived.Test.YtodhcoakjlmcdaaZEKG
namespace Go.Proofs.Ytodhcoakjlmcdaa.Bk
open Go.PL
theorem CopyRows_l1 {l : List (List Int)} (hl : ∀ x ∈ l, x.length ≤ 1000) : ∀ (tl pre : List (List Int)), l = pre ++ tl → l.length ≤ 100000 → oyezkit_CopyRows_int_l1 tl (pre.length : Int) (pre ++ List.replicate tl.length []) = some l
  | [], pre, he, _ => by
    unfold oyezkit_CopyRows_int_l1
    rw [he]; simp
  | x :: tl, pre, he, hn => by
    have hx := hl x (by rw [he]; simp)
    have hlen : (pre ++ List.replicate (x :: tl).length ([] : List Int)).length = l.length := by rw [he]; simp
    have hp : pre.length < (pre ++ List.replicate (x :: tl).length ([] : List Int)).length := by simp
    unfold oyezkit_CopyRows_int_l1
    rw [copy_eq (by omega), b1_some, ixN [] _ hp, bvE, Int.toNat_natCast, show (pre.length : Int) + 1 = ((pre ++ [x]).length : Int) by simp]
    have e : (pre ++ List.replicate (x :: tl).length ([] : List Int)).set pre.length x = (pre ++ [x]) ++ List.replicate tl.length [] := by
      rw [List.set_append_right _ _ (Nat.le_refl _), Nat.sub_self, List.length_cons, List.replicate_succ, List.set_cons_zero, List.append_assoc]; rfl
    rw [e]
    exact CopyRows_l1 hl tl (pre ++ [x]) (by rw [he]; simp) hn
theorem CopyRows_eq {l : List (List Int)} (hl : ∀ x ∈ l, x.length ≤ 1000) (hn : l.length ≤ 100000) : oyezkit_CopyRows_int l = some l := by
  have := CopyRows_l1 hl l [] rfl hn
  have this' : oyezkit_CopyRows_int_l1 l 0 (List.replicate ((l.length : Int)).toNat []) = some l := by
    rw [Int.toNat_natCast]; exact this
  unfold oyezkit_CopyRows_int
  rw [gd_t (by omega), bvE, this', b1_some]
theorem Own_l1 {l : List (List (List Int))} (hl : ∀ w ∈ l, w.length = 8 ∧ ∀ x ∈ w, x.length ≤ 1000) : ∀ (tl pre : List (List (List Int))), l = pre ++ tl → l.length ≤ 100000 → oyezlaw07_Own_l1 tl (pre.length : Int) (pre ++ List.replicate tl.length []) = some l
  | [], pre, he, _ => by
    unfold oyezlaw07_Own_l1
    rw [he]; simp
  | x :: tl, pre, he, hn => by
    have hx := hl x (by rw [he]; simp)
    have hp : pre.length < (pre ++ List.replicate (x :: tl).length ([] : List (List Int))).length := by simp
    unfold oyezlaw07_Own_l1
    rw [CopyRows_eq hx.2 (by omega), b1_some, ixN [] _ hp, bvE, Int.toNat_natCast, show (pre.length : Int) + 1 = ((pre ++ [x]).length : Int) by simp]
    have e : (pre ++ List.replicate (x :: tl).length ([] : List (List Int))).set pre.length x = (pre ++ [x]) ++ List.replicate tl.length [] := by
      rw [List.set_append_right _ _ (Nat.le_refl _), Nat.sub_self, List.length_cons, List.replicate_succ, List.set_cons_zero, List.append_assoc]; rfl
    rw [e]
    exact Own_l1 hl tl (pre ++ [x]) (by rw [he]; simp) hn
section
variable {n n2 : Int} {hs : List (List (List Int))} {rs : List Int} {cs : List (Int × Int × Int)}
theorem Own_eq (h : BOK n n2 hs rs cs) : oyezlaw07_Own n n2 hs rs cs = some (n, n2, hs, rs, cs) := by
  have h1 := h.hh; have h2 := h.hr; have h3 := h.hc
  have := Own_l1 (hears_small h) hs [] rfl (by omega)
  have this' : oyezlaw07_Own_l1 hs 0 (List.replicate ((hs.length : Int)).toNat []) = some hs := by
    rw [Int.toNat_natCast]; exact this
  unfold oyezlaw07_Own
  rw [gd_t (by omega), bvE, this', b1_some, copy_eq (by omega), b1_some, copy_cry (by omega), b1_some]
theorem BOK.more (h : BOK n n2 hs rs cs) {xs : List (Int × Int × Int)} (hl : cs.length + xs.length ≤ 12) (hx : ∀ c ∈ xs, (0 ≤ c.1 ∧ c.1 < (rs.length : Int)) ∧ (0 ≤ c.2.1 ∧ c.2.1 < (hs.length : Int)) ∧ (0 ≤ c.2.2 ∧ c.2.2 < n2)) : BOK n n2 hs rs (cs ++ xs) :=
  ⟨h.hn, h.hn2, h.hh, h.hr, by rw [List.length_append]; exact hl, h.h8, h.hl, h.rr, fun c hc => (List.mem_append.1 hc).elim (h.cc c) (hx c)⟩
theorem verd_uniq {x q v v2 : Int} {cs2 : List (Int × Int × Int)} (hex : ∃ c, FitF none rs c) (h1 : VerdP hs rs cs x q v) (h2 : VerdP hs rs cs2 x q v2) (he : ∀ c, FitF none rs c → heardB hs cs2 c x q = heardB hs cs c x q) : v2 = v := by
  obtain ⟨c, hc⟩ := hex
  rcases h1 with ⟨rfl, g1⟩ | ⟨rfl, g1⟩ | ⟨rfl, ⟨d, hd, g1⟩, d2, hd2, g2⟩
  · rcases h2 with ⟨rfl, _⟩ | ⟨rfl, f1⟩ | ⟨rfl, _, d, hd, f2⟩
    · rfl
    · have := f1 c hc; rw [he c hc, g1 c hc] at this; cases this
    · rw [he d hd, g1 d hd] at f2; cases f2
  · rcases h2 with ⟨rfl, f1⟩ | ⟨rfl, _⟩ | ⟨rfl, ⟨d, hd, f2⟩, _⟩
    · have := f1 c hc; rw [he c hc, g1 c hc] at this; cases this
    · rfl
    · rw [he d hd, g1 d hd] at f2; cases f2
  · rcases h2 with ⟨rfl, f1⟩ | ⟨rfl, f1⟩ | ⟨rfl, _⟩
    · have := f1 d2 hd2; rw [he d2 hd2, g2] at this; cases this
    · have := f1 d hd; rw [he d hd, g1] at this; cases this
    · rfl
end
end Go.Proofs.Ytodhcoakjlmcdaa.Bk
