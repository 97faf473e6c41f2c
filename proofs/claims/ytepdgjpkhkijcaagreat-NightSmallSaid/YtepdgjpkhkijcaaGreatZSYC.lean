/- The calculus, part YC: one of a few lists, chosen by a number. -/
import Derived.Test.YtepdgjpkhkijcaaGreatZSYA
namespace Go.SH
def P9 (hs : List Hd) (i : Int) : Hd := hs.getD i.toNat (none, 0, 0)
def Lk (hs : List Hd) (i : Int) : Value := .slice (P9 hs i).1 (P9 hs i).2.1 (P9 hs i).2.2
theorem Ps {hs : List Hd} {i : Int} {n : Nat} (hn : hs.length = n) (g : 0 ≤ i ∧ i < (n : Int)) {c : Array Value} (hc : c = (hs.map fun u => Value.slice u.1 u.2.1 u.2.2).toArray) : c[0 + i.toNat * 1]? = some (Lk hs i) := by
  have h : i.toNat < hs.length := by omega
  subst hc
  simp only [Nat.zero_add, Nat.mul_one, List.getElem?_toArray, List.getElem?_map]
  rw [List.getElem?_eq_getElem h]
  simp [Lk, P9, List.getD, List.getElem?_eq_getElem h]
theorem Pt {α : Type} {sz : Nat} {R : IZ α} {F : FS} {hs : List Hd} {CF : List (List α)} (h : Es (fun u xs => u.2.1 = xs.length ∧ Au sz R F u.1 u.2.2 xs) hs CF) : ∀ {i : Int} {x : List α}, CF[i.toNat]? = some x → ∃ a c, Lk hs i = .slice a x.length c ∧ Au sz R F a c x := by
  have key : ∀ (j : Nat) (x : List α), CF[j]? = some x → (hs.getD j (none, 0, 0)).2.1 = x.length ∧ Au sz R F (hs.getD j (none, 0, 0)).1 (hs.getD j (none, 0, 0)).2.2 x := by
    induction h with
    | nil => intro j x hx; simp at hx
    | cons h1 _ ih =>
      intro j x hx
      cases j with
      | zero => simp only [List.getElem?_cons_zero, Option.some.injEq] at hx; subst hx; exact h1
      | succ j => simp only [List.getElem?_cons_succ] at hx; exact ih j x hx
  intro i x hx
  obtain ⟨h1, h2⟩ := key _ x hx
  exact ⟨_, _, by unfold Lk P9; rw [h1], h2⟩
theorem KL.eq {L L2 L3 : LH} (h : KL L L2) (he : L3 = L2) : KL L L3 := he ▸ h
section
variable {P : Program} {N : Nat} {r : Option Nat} {K : Ctx} {Q : GK} {c : Code} {e : Env} {F : FS} {L Lr : LH}
theorem P7 {p : LH → Prop} {A : LH} (h : p A) (hL : L.Perm (A ++ Lr)) (k : ∀ Lb, p Lb → EO P N r K c Q e F (Lb ++ Lr)) : EO P N r K c Q e F L := JL hL (k A h)
end
end Go.SH
