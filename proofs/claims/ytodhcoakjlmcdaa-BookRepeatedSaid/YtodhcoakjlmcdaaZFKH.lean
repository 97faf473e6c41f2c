/- Layer 7: a cry more; BookCried; in plain Lean. -/
import Derived.Test.YtodhcoakjlmcdaaZFKG
namespace Go.Proofs.Ytodhcoakjlmcdaa.Bk
open Go.PL
theorem CopyRows_l1 {l : List (List Int)} (hl : ∀ x ∈ l, x.length ≤ 1000) : ∀ (tl pre : List (List Int)), l = pre ++ tl → l.length ≤ 100000 → oyezkit_CopyRows_int_l1 tl (pre.length : Int) (pre ++ List.replicate tl.length []) = some l
  | [], pre, he, _ => by
    unfold oyezkit_CopyRows_int_l1
    rw [he]; simp
  | x :: tl, pre, he, hn => by
    have hx := hl x (by rw [he]; simp)
    have hlen : (pre ++ List.replicate (x :: tl).length ([] : List Int)).length = l.length := by rw [he]; simp
    have hp : pre.length < (pre ++ List.replicate (x :: tl).length ([] : List Int)).length := by simp
    unfold oyezkit_CopyRows_int_l1
    rw [copy_eq (by omega), b1_some, ixN [] _ hp, bvE, Int.toNat_natCast, show (pre.length : Int) + 1 = ((pre ++ [x]).length : Int) by simp]
    have e : (pre ++ List.replicate (x :: tl).length ([] : List Int)).set pre.length x = (pre ++ [x]) ++ List.replicate tl.length [] := by
      rw [List.set_append_right _ _ (Nat.le_refl _), Nat.sub_self, List.length_cons, List.replicate_succ, List.set_cons_zero, List.append_assoc]; rfl
    rw [e]
    exact CopyRows_l1 hl tl (pre ++ [x]) (by rw [he]; simp) hn
theorem CopyRows_eq {l : List (List Int)} (hl : ∀ x ∈ l, x.length ≤ 1000) (hn : l.length ≤ 100000) : oyezkit_CopyRows_int l = some l := by
  have := CopyRows_l1 hl l [] rfl hn
  have this' : oyezkit_CopyRows_int_l1 l 0 (List.replicate ((l.length : Int)).toNat []) = some l := by
    rw [Int.toNat_natCast]; exact this
  unfold oyezkit_CopyRows_int
  rw [gd_t (by omega), bvE, this', b1_some]
theorem Own_l1 {l : List (List (List Int))} (hl : ∀ w ∈ l, w.length = 8 ∧ ∀ x ∈ w, x.length ≤ 1000) : ∀ (tl pre : List (List (List Int))), l = pre ++ tl → l.length ≤ 100000 → oyezlaw07_Own_l1 tl (pre.length : Int) (pre ++ List.replicate tl.length []) = some l
  | [], pre, he, _ => by
    unfold oyezlaw07_Own_l1
    rw [he]; simp
  | x :: tl, pre, he, hn => by
    have hx := hl x (by rw [he]; simp)
    have hp : pre.length < (pre ++ List.replicate (x :: tl).length ([] : List (List Int))).length := by simp
    unfold oyezlaw07_Own_l1
    rw [CopyRows_eq hx.2 (by omega), b1_some, ixN [] _ hp, bvE, Int.toNat_natCast, show (pre.length : Int) + 1 = ((pre ++ [x]).length : Int) by simp]
    have e : (pre ++ List.replicate (x :: tl).length ([] : List (List Int))).set pre.length x = (pre ++ [x]) ++ List.replicate tl.length [] := by
      rw [List.set_append_right _ _ (Nat.le_refl _), Nat.sub_self, List.length_cons, List.replicate_succ, List.set_cons_zero, List.append_assoc]; rfl
    rw [e]
    exact Own_l1 hl tl (pre ++ [x]) (by rw [he]; simp) hn
section
variable {n n2 : Int} {hs : List (List (List Int))} {rs : List Int} {cs : List (Int × Int × Int)}
theorem Own_eq (h : BOK n n2 hs rs cs) : oyezlaw07_Own n n2 hs rs cs = some (n, n2, hs, rs, cs) := by
  have h1 := h.hh; have h2 := h.hr; have h3 := h.hc
  have := Own_l1 (hears_small h) hs [] rfl (by omega)
  have this' : oyezlaw07_Own_l1 hs 0 (List.replicate ((hs.length : Int)).toNat []) = some hs := by
    rw [Int.toNat_natCast]; exact this
  unfold oyezlaw07_Own
  rw [gd_t (by omega), bvE, this', b1_some, copy_eq (by omega), b1_some, copy_cry (by omega), b1_some]
theorem BOK.more (h : BOK n n2 hs rs cs) {xs : List (Int × Int × Int)} (hl : cs.length + xs.length ≤ 12) (hx : ∀ c ∈ xs, (0 ≤ c.1 ∧ c.1 < (rs.length : Int)) ∧ (0 ≤ c.2.1 ∧ c.2.1 < (hs.length : Int)) ∧ (0 ≤ c.2.2 ∧ c.2.2 < n2)) : BOK n n2 hs rs (cs ++ xs) :=
  ⟨h.hn, h.hn2, h.hh, h.hr, by rw [List.length_append]; exact hl, h.h8, h.hl, h.rr, fun c hc => (List.mem_append.1 hc).elim (h.cc c) (hx c)⟩
theorem heardB_app (cs xs : List (Int × Int × Int)) (c : List Int) (x q : Int) : heardB hs (cs ++ xs) c x q = (heardB hs cs c x q || heardB hs xs c x q) := by unfold heardB; rw [List.any_append]
theorem verd_one {x q v : Int} (h : VerdP hs rs cs x q v) : v = 1 ↔ ((∀ c, FitF none rs c → heardB hs cs c x q = true) ∧ v = 1) := by
  rcases h with ⟨rfl, h1⟩ | ⟨rfl, _⟩ | ⟨rfl, _⟩
  · exact ⟨fun _ => ⟨h1, rfl⟩, fun _ => rfl⟩
  · exact ⟨(fun h => by omega), fun h => h.2⟩
  · exact ⟨(fun h => by omega), fun h => h.2⟩
theorem verd_one_of {x q v : Int} (hex : ∃ c, FitF none rs c) (h : VerdP hs rs cs x q v) (ha : ∀ c, FitF none rs c → heardB hs cs c x q = true) : v = 1 := by
  obtain ⟨c, hc⟩ := hex
  rcases h with ⟨rfl, _⟩ | ⟨_, h1⟩ | ⟨_, _, d, hd, h1⟩
  · rfl
  · have := h1 c hc; rw [ha c hc] at this; cases this
  · rw [ha d hd] at h1; cases h1
end
end Go.Proofs.Ytodhcoakjlmcdaa.Bk
