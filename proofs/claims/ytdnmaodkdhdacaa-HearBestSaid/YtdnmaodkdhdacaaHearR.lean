/- Layer 1: ways, tables that are tried, houses, in plain Lean. No program is in sight. -/
import Derived.Test.YtdnmaodkdhdacaaHearQ
namespace Go.Hear

def lastN (l : List (Int × Int)) (p : Int) : Int := l.foldl (fun a x => if x.1 = p then x.2 else a) (-1)
theorem lastN_snoc (pre : List (Int × Int)) (x : Int × Int) (p : Int) : lastN (pre ++ [x]) p = if x.1 = p then x.2 else lastN pre p := by simp [lastN, List.foldl_append]
theorem lastN_mem (l : List (Int × Int)) (p : Int) : lastN l p = -1 ∨ (p, lastN l p) ∈ l := by
  have : ∀ (l : List (Int × Int)) (a : Int) (S : List (Int × Int)), (a = -1 ∨ (p, a) ∈ S) → (l.foldl (fun a x => if x.1 = p then x.2 else a) a = -1 ∨ (p, l.foldl (fun a x => if x.1 = p then x.2 else a) a) ∈ S ++ l) := by
    intro l
    induction l with
    | nil => intro a S h; simpa using h
    | cons x l ih =>
      intro a S h
      rw [List.foldl_cons, List.append_cons]
      refine ih _ _ ?_
      split
      · rename_i he; right; rw [← he]; simp
      · exact h.imp id fun h => List.mem_append_left _ h
  simpa [lastN] using this l (-1) [] (.inl rfl)
theorem lastN_ok {n : Nat} {E : Int → List (Int × Int)} (hE : EOK n E) (p q : Int) : lastN (E p) q = -1 ∨ ((0 ≤ q ∧ q < n) ∧ 1 ≤ lastN (E p) q ∧ lastN (E p) q ≤ 5) :=
  (lastN_mem (E p) q).imp id fun h => hE _ _ _ h
theorem lastN_pre {n : Nat} {E : Int → List (Int × Int)} (hE : EOK n E) {p q : Int} {pre suf : List (Int × Int)} (h : E p = pre ++ suf) : -1 ≤ lastN pre q ∧ lastN pre q ≤ 5 := by
  rcases lastN_mem pre q with h1 | h1
  · omega
  · have := hE p q _ (by rw [h]; exact List.mem_append_left _ h1)
    omega

def sumW (E : Int → List (Int × Int)) (way : List Int) : Nat → Int
  | 0 => 0
  | k + 1 => if sumW E way k = -1 then -1 else if lastN (E (way.getD k 0)) (way.getD (k + 1) 0) = -1 then -1 else sumW E way k + lastN (E (way.getD k 0)) (way.getD (k + 1) 0)
theorem sumW_stop {E : Int → List (Int × Int)} {way : List Int} {k : Nat} (h : sumW E way k = -1) : ∀ j, k ≤ j → sumW E way j = -1 := by
  intro j hj
  induction j with
  | zero => obtain rfl : k = 0 := by omega
            exact h
  | succ j ih =>
    by_cases he : k = j + 1
    · rw [← he]; exact h
    · show (if sumW E way j = -1 then -1 else _) = -1
      rw [if_pos (ih (by omega))]
def takesE (wide : Int) (ps : List Int) (w : Int) (way : List Int) : Int := if openE wide ps w ≠ 0 then openE wide ps w else if (way.length : Int) = 0 then 2 else if isE ps (way.getD 0 0) 0 ≠ 0 then 8 else if sumW (nextL wide ps w) way (way.length - 1) = -1 then 8 else 0
def takesV (wide : Int) (ps : List Int) (w : Int) (way : List Int) : Int := if takesE wide ps w way = 0 then sumW (nextL wide ps w) way (way.length - 1) else 0

def hearsB (ps tb : List Int) (v : Int) (p : Nat) : Bool := decide (ps.getD p 0 = 1) && decide (0 ≤ tb.getD p 0 ∧ tb.getD p 0 ≤ v)
def hearsL (ps tb : List Int) (v : Int) (k : Nat) : List Int := ((List.range k).filter (hearsB ps tb v)).map Int.ofNat
theorem hearsL_succ (ps tb : List Int) (v : Int) (k : Nat) : hearsL ps tb v (k + 1) = hearsL ps tb v k ++ if hearsB ps tb v k = true then [(k : Int)] else [] := by
  unfold hearsL
  rw [List.range_succ, List.filter_append, List.map_append]
  cases h : hearsB ps tb v k <;> simp [h]
theorem hearsL_len (ps tb : List Int) (v : Int) (k : Nat) : (hearsL ps tb v k).length ≤ k := by
  unfold hearsL
  rw [List.length_map]
  exact Nat.le_trans (List.length_filter_le ..) (by simp)
def housesE (wide : Int) (ps : List Int) (w v stand : Int) : Int := if chk wide ps ≠ 0 then chk wide ps else if chkA w v ≠ 0 then chkA w v else standE wide ps w stand

def edgesB (E : Int → List (Int × Int)) (ps tb : List Int) (n : Nat) : Bool := (List.range n).all fun p => decide (ps.getD p 0 = 2) || (E p).all fun x => decide (tb.getD x.1.toNat 0 - tb.getD p 0 ≤ x.2)
theorem edgesB_iff {E : Int → List (Int × Int)} {ps tb : List Int} {n : Nat} : edgesB E ps tb n = true ↔ ∀ p : Nat, p < n → ps.getD p 0 ≠ 2 → ∀ x ∈ E p, tb.getD x.1.toNat 0 - tb.getD p 0 ≤ x.2 := by
  unfold edgesB
  simp only [List.all_eq_true, List.mem_range, Bool.or_eq_true, decide_eq_true_eq]
  constructor
  · intro h p hp hne x hx
    exact (h p hp).resolve_left hne x hx
  · intro h p hp
    by_cases hc : ps.getD p 0 = 2
    · exact .inl hc
    · exact .inr (h p hp hc)
def holdE (wide : Int) (ps : List Int) (w stand : Int) (tb : List Int) : Int := if standE wide ps w stand ≠ 0 then standE wide ps w stand else if (tb.length : Int) ≠ ps.length then 2 else 0
def holdB (wide : Int) (ps : List Int) (w stand : Int) (tb : List Int) : Bool := decide (standE wide ps w stand = 0) && (decide ((tb.length : Int) = ps.length) && (decide (tb.getD stand.toNat 0 = 0) && edgesB (nextL wide ps w) ps tb ps.length))
end Go.Hear
