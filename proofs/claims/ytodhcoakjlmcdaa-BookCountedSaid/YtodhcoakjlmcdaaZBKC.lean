/- Layer 7: verdicts, complaints, courses that are tried; in plain Lean. -/
import Derived.Test.YtodhcoakjlmcdaaZBKB
namespace Go.Proofs.Ytodhcoakjlmcdaa.Bk
open Go.PL
section
variable {n n2 : Int} {hs : List (List (List Int))} {rs : List Int} {cs : List (Int × Int × Int)}
/-- What stands for all that courses come to. -/
structure EndsOK (hs : List (List (List Int))) (rs : List Int) (cs : List (Int × Int × Int)) (L : List (List Bool × List Int)) : Prop where
  len : L.length ≤ 20000
  of : ∀ e ∈ L, FitF none rs e.2 ∧ e.1 = alongF hs cs 0 e.2 zeroG
  all : ∀ c, FitF none rs c → ∃ e ∈ L, e.1 = alongF hs cs 0 c zeroG
theorem EndsOK.get (h : BOK n n2 hs rs cs) {L : List (List Bool × List Int)} (hL : EndsOK hs rs cs L) {x q : Int} (hx : 0 ≤ x ∧ x < 6) (hq : 0 ≤ q ∧ q < 4) : ∀ e ∈ L, e.1.getD (x * 4 + q).toNat false = heardB hs cs e.2 x q := fun e he => by
  obtain ⟨h1, h2⟩ := hL.of e he
  rw [h2]; exact along_heard h hx hq h1.rng h1.len
/-- What a verdict says. -/
def VerdP (hs : List (List (List Int))) (rs : List Int) (cs : List (Int × Int × Int)) (x q v : Int) : Prop :=
  (v = 1 ∧ ∀ c, FitF none rs c → heardB hs cs c x q = true) ∨ (v = 2 ∧ ∀ c, FitF none rs c → heardB hs cs c x q = false) ∨
  (v = 0 ∧ (∃ c, FitF none rs c ∧ heardB hs cs c x q = true) ∧ ∃ c, FitF none rs c ∧ heardB hs cs c x q = false)
/-- A table of verdicts. -/
structure VTab (n n2 : Int) (hs : List (List (List Int))) (rs : List Int) (cs : List (Int × Int × Int)) (T : List (List Int)) : Prop where
  len : (T.length : Int) = n
  row : ∀ r ∈ T, (r.length : Int) = n2
  get : ∀ x q : Int, (0 ≤ x ∧ x < n) → (0 ≤ q ∧ q < n2) → VerdP hs rs cs x q ((T.getD x.toNat []).getD q.toNat 0)
theorem getD_map_range {α : Type} (f : Nat → α) {m j : Nat} (d : α) (h : j < m) : ((List.range m).map f).getD j d = f j := by
  rw [List.getD_eq_getElem?_getD, List.getElem?_map, List.getElem?_range h]; rfl
abbrev Cp := Int × Int × Bool
/-- Complaints that are right. -/
def CpOK (n n2 : Int) (ps : List Cp) : Prop := ps.length ≤ 8 ∧ ∀ p ∈ ps, (0 ≤ p.1 ∧ p.1 < n) ∧ (0 ≤ p.2.1 ∧ p.2.1 < n2)
theorem CpOK.rng (h : BOK n n2 hs rs cs) {ps : List Cp} (hp : CpOK n n2 ps) : ∀ p ∈ ps, (0 ≤ p.1 ∧ p.1 < 6) ∧ (0 ≤ p.2.1 ∧ p.2.1 < 4) := fun p hm => by
  have := hp.2 p hm; have := h.hn; have := h.hn2; omega
def prevO (c : List Int) (k : Nat) : Option Int := if k = 0 then none else some (c.getD (k - 1) 0)
def fitB : Option Int → List Int → List Int → Bool
  | _, [], [] => true
  | p, r :: rs, w :: c => canB r w && (match p with | some v => nearB w v | none => true) && fitB (some w) rs c
  | _, _, _ => false
theorem fitB_iff : ∀ {p : Option Int} {rs c : List Int}, (∀ w ∈ c, 0 ≤ w ∧ w ≤ 7) → (fitB p rs c = true ↔ FitF p rs c)
  | _, [], [], _ => ⟨fun _ => trivial, fun _ => rfl⟩
  | p, r :: rs, w :: c, hc => by
    have ih := fitB_iff (p := some w) (rs := rs) (c := c) (fun x hx => hc x (by simp [hx]))
    unfold fitB FitF
    rw [Bool.and_eq_true, Bool.and_eq_true, ih]
    cases p with
    | none => exact ⟨fun ⟨⟨h1, _⟩, h3⟩ => ⟨hc w (by simp), h1, (fun _ h => nomatch h), h3⟩, fun ⟨_, h1, _, h3⟩ => ⟨⟨h1, rfl⟩, h3⟩⟩
    | some v => exact ⟨fun ⟨⟨h1, h2⟩, h3⟩ => ⟨hc w (by simp), h1, fun _ h => by cases h; exact h2, h3⟩, fun ⟨_, h1, h2, h3⟩ => ⟨⟨h1, h2 v rfl⟩, h3⟩⟩
  | _, [], _ :: _, _ => ⟨(fun h => nomatch h), fun h => h.elim⟩
  | _, _ :: _, [], _ => ⟨(fun h => nomatch h), fun h => h.elim⟩
theorem lfit_l2 {rs : List Int} (h8 : rs.length ≤ 8) (hr : ∀ r ∈ rs, -1 ≤ r ∧ r ≤ 7) {c : List Int} (hl : c.length = rs.length) (hc : ∀ w ∈ c, 0 ≤ w ∧ w ≤ 7) : ∀ (tl : List Int) (k : Nat), c.drop k = tl → oyezlaw07_fit_l2 rs c tl (k : Int) = some (fitB (prevO c k) (rs.drop k) tl)
  | [], k, hd => by
    have : c.length ≤ k := by have := congrArg List.length hd; simp at this; omega
    rw [List.drop_eq_nil_of_le (show rs.length ≤ k by omega)]; rfl
  | x :: tl, k, hd => by
    obtain ⟨hk, hx, hd2⟩ := drop_cons 0 hd
    have hkr : k < rs.length := by omega
    have hx7 : 0 ≤ x ∧ x ≤ 7 := by rw [← hx]; exact hc _ (getD_mem hk)
    have er : rs.drop k = rs.getD k 0 :: rs.drop (k + 1) := by
      rw [List.drop_eq_getElem_cons hkr, List.getD_eq_getElem?_getD, List.getElem?_eq_getElem hkr]; rfl
    have hr7 := hr _ (getD_mem (d := 0) hkr)
    have ih := lfit_l2 h8 hr hl hc tl (k + 1) hd2
    have e0 : prevO c (k + 1) = some x := by unfold prevO; rw [if_neg (by omega), Nat.add_sub_cancel, hx]
    rw [e0] at ih
    rw [er]
    unfold oyezlaw07_fit_l2 fitB
    rw [ixI _ hkr]
    generalize rs.getD k 0 = r at hr7
    have e2 : (if 0 < (k : Int) then gd (R64 ((k : Int) - 1)) <| ix c ((k : Int) - 1) fun x3 => b1 (oyezlaw07_near x x3) fun ok2 => some (!ok2) else some false) = some (!(match prevO c k with | some v => nearB x v | none => true)) := by
      unfold prevO
      by_cases e : k = 0
      · subst e; rw [if_neg (by decide), if_pos rfl]; rfl
      · rw [if_pos (by omega), if_neg e, gd_t (r64_small (by omega)), show (k : Int) - 1 = ((k - 1 : Nat) : Int) by omega, ixI _ (by omega), lnear_eq hx7 (hc _ (getD_mem (by omega))), b1_some]
    have e3 : (if r ≠ (-1) then b1 (oyezlaw07_near x r) fun ok => if (!ok) = true then some true else (if 0 < (k : Int) then gd (R64 ((k : Int) - 1)) <| ix c ((k : Int) - 1) fun x3 => b1 (oyezlaw07_near x x3) fun ok2 => some (!ok2) else some false) else (if 0 < (k : Int) then gd (R64 ((k : Int) - 1)) <| ix c ((k : Int) - 1) fun x4 => b1 (oyezlaw07_near x x4) fun ok3 => some (!ok3) else some false)) = some (!(canB r x && (match prevO c k with | some v => nearB x v | none => true))) := by
      unfold canB
      by_cases e : r = -1
      · rw [if_neg (by simp [e]), e2]; simp [e]
      · rw [if_pos e, lnear_eq hx7 (by omega), b1_some]
        by_cases e4 : nearB x r = true
        · rw [e4, if_neg (by decide), e2]; simp
        · have e5 : nearB x r = false := by simpa using e4
          rw [e5, if_pos (by decide)]; simp [e]
    rw [e3, b1_some]
    by_cases e : (canB r x && (match prevO c k with | some v => nearB x v | none => true)) = true
    · rw [e, if_neg (by decide), show (k : Int) + 1 = ((k + 1 : Nat) : Int) by omega, ih]; simp
    · have e' : (canB r x && (match prevO c k with | some v => nearB x v | none => true)) = false := by simpa using e
      rw [e', if_pos (by decide)]; simp
theorem lfit_eq (h : BOK n n2 hs rs cs) {c : List Int} (hl : c.length = rs.length) (hc : ∀ w ∈ c, 0 ≤ w ∧ w ≤ 7) : oyezlaw07_fit n n2 hs rs cs c = some (fitB none rs c) := lfit_l2 h.hr.2 h.rr hl hc c 0 rfl
theorem right_eq (h : BOK n n2 hs rs cs) {c : List Int} (hc : FitF none rs c) : oyezlaw07_right n n2 hs rs cs c = some true := by
  unfold oyezlaw07_right
  rw [if_pos (by rw [hc.len]), idx_int_int (g := fun _ => false) (fun w hw => by
    have := hc.rng w hw
    unfold oyezlaw07_right_1
    rw [if_neg (by omega)]; congr 1; exact decide_eq_false (by omega)), b1_some, show c.any (fun _ => false) = false by rw [List.any_eq_false]; exact fun _ _ => by decide, if_pos (by decide), lfit_eq h hc.len hc.rng, b1_some, (fitB_iff hc.rng).2 hc]
end
end Go.Proofs.Ytodhcoakjlmcdaa.Bk
