/- Layer 5: who need not have slept (NightQuiet); in plain Lean. -/
import Derived.Test.YtjgeaaganpkceaaZhQI
namespace Go.Proofs.Ytjgeaaganpkceaa.Nt
open Go.PL Rv
theorem app_get {α : Type} (a : List α) (x : α) (tl : List α) (d : α) : (a ++ x :: tl).getD a.length d = x := by
  rw [List.getD_eq_getElem?_getD, List.getElem?_append_right (Nat.le_refl _), Nat.sub_self]; rfl
theorem app_set {α : Type} (a : List α) (x y : α) (tl : List α) : (a ++ x :: tl).set a.length y = a ++ y :: tl := by
  rw [List.set_append_right (h := Nat.le_refl _), Nat.sub_self, List.set_cons_zero]
section
variable {ls hs : List (List Int)}
theorem fitF_of {c : Nat} : ∀ (ms : List Int) (k : Nat), (∀ (i : Nat) m, ms[i]? = some m → markB c m (k + i) = true) → fitF c ms k = true
  | [], _, _ => rfl
  | m :: ms, k, h => by
    unfold fitF
    rw [Bool.and_eq_true]
    refine ⟨h 0 m rfl, fitF_of ms (k + 1) fun i m' hi => ?_⟩
    have := h (i + 1) m' (by simpa using hi)
    rwa [show k + (i + 1) = k + 1 + i by omega] at this
theorem fitF_at {c : Nat} : ∀ {ms : List Int} {k i : Nat} {m : Int}, fitF c ms k = true → ms[i]? = some m → markB c m (k + i) = true
  | [], _, _, _, _, h => by simp at h
  | x :: ms, k, i, m, h, hi => by
    unfold fitF at h
    rw [Bool.and_eq_true] at h
    cases i with
    | zero => simp at hi; subst hi; exact h.1
    | succ i =>
      have := fitF_at h.2 (i := i) (by simpa using hi)
      rwa [show k + 1 + i = k + (i + 1) by omega] at this
end
end Go.Proofs.Ytjgeaaganpkceaa.Nt
