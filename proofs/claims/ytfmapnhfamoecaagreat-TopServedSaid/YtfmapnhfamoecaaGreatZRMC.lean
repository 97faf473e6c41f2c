/- Lists that are turned round by exchanges; lists of numbers in order; in plain Lean. -/
import Derived.Test.YtfmapnhfamoecaaGreatZRPl
import Derived.Test.YtfmapnhfamoecaaGreatZRTd
namespace Go.Proofs.YtfmapnhfamoecaaGreat.Rv
section
variable {α : Type}
def JG (d : α) (xs : List α) (k : Nat) : List α := (List.range xs.length).map fun t => if t < k ∨ xs.length - 1 - t < k then xs.getD (xs.length - 1 - t) d else xs.getD t d
theorem Es (d : α) (xs : List α) (k : Nat) : (JG d xs k).length = xs.length := by simp [JG]
theorem Gh {d : α} {xs : List α} {k t : Nat} (h : t < xs.length) : (JG d xs k).getD t d = if t < k ∨ xs.length - 1 - t < k then xs.getD (xs.length - 1 - t) d else xs.getD t d := by
  simp only [JG, List.getD_eq_getElem?_getD, List.getElem?_map, List.getElem?_range h]
  rfl
theorem Iz {d : α} {xs ys : List α} (hl : xs.length = ys.length) (h : ∀ t, t < xs.length → xs.getD t d = ys.getD t d) : xs = ys := by
  apply List.ext_getElem hl
  intro t h1 h2
  have := h t h1
  simpa [List.getD_eq_getElem?_getD, h1, h2] using this
theorem Jk {d : α} {xs : List α} {i t : Nat} {x : α} (h : i < xs.length) : (xs.set i x).getD t d = if i = t then x else xs.getD t d := by
  rw [List.getD_eq_getElem?_getD, List.getElem?_set]
  by_cases hi : i = t
  · rw [if_pos hi, if_pos hi, if_pos h]; rfl
  · rw [if_neg hi, if_neg hi, List.getD_eq_getElem?_getD]
theorem Rw (d : α) (xs : List α) : JG d xs 0 = xs := by
  refine Iz (d := d) (Es ..) fun t ht => ?_
  rw [Es] at ht
  rw [Gh ht, if_neg (by omega)]
theorem RP {d : α} {xs : List α} {k j : Nat} (hj : j = xs.length - 1 - k) (h : k < j) : ((JG d xs k).set k ((JG d xs k).getD j d)).set j ((JG d xs k).getD k d) = JG d xs (k + 1) := by
  refine Iz (d := d) (by simp [Es]) fun t ht => ?_
  simp only [List.length_set, Es] at ht
  rw [Jk (by simp [Es]; omega), Jk (by rw [Es]; omega), Gh ht, Gh (k := k + 1) ht]
  by_cases h1 : j = t
  · rw [if_pos h1, Gh (by omega), if_neg (by omega), if_pos (by omega)]; congr 1; omega
  · rw [if_neg h1]
    by_cases h2 : k = t
    · rw [if_pos h2, Gh (by omega), if_neg (by omega), if_pos (by omega)]; congr 1; omega
    · rw [if_neg h2]
      by_cases h3 : t < k ∨ xs.length - 1 - t < k
      · rw [if_pos h3, if_pos (by omega)]
      · rw [if_neg h3, if_neg (by omega)]
theorem Tt {d : α} {xs : List α} {k : Nat} (h : xs.length ≤ 2 * k + 1) : JG d xs k = xs.reverse := by
  refine Iz (d := d) (by simp [Es]) fun t ht => ?_
  rw [Es] at ht
  rw [Gh ht]
  have hr : xs.reverse.getD t d = xs.getD (xs.length - 1 - t) d := by
    simp [List.getD_eq_getElem?_getD, List.getElem?_reverse ht]
  rw [hr]
  split
  · rfl
  · congr 1; omega
end
def Up (n f : Nat) (c : List Nat) : Prop := c.Pairwise (· < ·) ∧ ∀ i ∈ c, f ≤ i ∧ i < n
theorem Up.nil (n f : Nat) : Up n f [] := ⟨List.Pairwise.nil, fun _ h => nomatch h⟩
theorem Up.cons {n f i : Nat} {c : List Nat} : Up n f (i :: c) ↔ (f ≤ i ∧ i < n) ∧ Up n (i + 1) c := by
  constructor
  · intro h
    have h1 := List.pairwise_cons.1 h.1
    exact ⟨h.2 i (List.mem_cons_self ..), h1.2, fun j hj => ⟨h1.1 j hj, (h.2 j (List.mem_cons_of_mem _ hj)).2⟩⟩
  · rintro ⟨h1, h2⟩
    refine ⟨List.pairwise_cons.2 ⟨fun j hj => (h2.2 j hj).1, h2.1⟩, fun j hj => ?_⟩
    rcases List.mem_cons.1 hj with rfl | hj
    · exact h1
    · have := h2.2 j hj
      omega
theorem Up.len {n : Nat} : ∀ {c : List Nat} {f : Nat}, Up n f c → c.length ≤ n - f
  | [], _, _ => Nat.zero_le _
  | i :: c, f, h => by
    obtain ⟨h1, h2⟩ := Up.cons.1 h
    have := Up.len h2
    rw [List.length_cons]; omega
end Go.Proofs.YtfmapnhfamoecaaGreat.Rv
namespace Go.Proofs.YtfmapnhfamoecaaGreat.Rd
open Go.PL
theorem Lv {α β : Type} {a : α} {f : α → Option β} : bv a f = f a := rfl
theorem AJ {x : Int} (h : -1000000000 ≤ x ∧ x ≤ 1000000000) : Dh x := by unfold Dh; omega
theorem I6 {α : Type} {xs : List α} {i : Nat} {d : α} (h : i < xs.length) : xs[i]? = some (xs.getD i d) := by
  rw [List.getD_eq_getElem?_getD, List.getElem?_eq_getElem h]; rfl
theorem Gm {α : Type} {xs : List α} {i : Nat} {d : α} (h : i < xs.length) : xs.getD i d ∈ xs := by
  rw [List.getD_eq_getElem?_getD, List.getElem?_eq_getElem h]; exact List.getElem_mem h
theorem Zm {α β : Type} {xs : List α} {i : Int} (d : α) (f : α → Option β) (h0 : 0 ≤ i) (h : i < (xs.length : Int)) : ix xs i f = f (xs.getD i.toNat d) := NV h0 (I6 (by omega))
theorem Xb {α β : Type} {xs : List α} {i : Nat} (d : α) (f : α → Option β) (h : i < xs.length) : ix xs (i : Int) f = f (xs.getD i d) := NV (by omega) (by rw [Int.toNat_natCast]; exact I6 h)
theorem Wm {β : Type} {xs : List Int} {i : Nat} (f : Int → Option β) (h : i < xs.length) : ix xs (i : Int) f = f (xs.getD i 0) := Xb 0 f h
theorem Il {α : Type} {d : α} {xs : List α} {i t : Nat} {x : α} (h : i < xs.length) : (xs.set i x).getD t d = if i = t then x else xs.getD t d := by
  rw [List.getD_eq_getElem?_getD, List.getD_eq_getElem?_getD, List.getElem?_set]
  by_cases e : i = t
  · subst e; simp [h]
  · simp [e]
theorem Iz {α : Type} {d : α} {xs ys : List α} (hl : xs.length = ys.length) (h : ∀ t, t < xs.length → xs.getD t d = ys.getD t d) : xs = ys := by
  refine List.ext_getElem hl fun t h1 h2 => ?_
  have := h t h1
  rw [List.getD_eq_getElem?_getD, List.getD_eq_getElem?_getD, List.getElem?_eq_getElem h1, List.getElem?_eq_getElem h2] at this
  exact this
theorem drop_cons {α : Type} {xs : List α} {k : Nat} {x : α} {tl : List α} (d : α) (h : xs.drop k = x :: tl) : k < xs.length ∧ xs.getD k d = x ∧ xs.drop (k + 1) = tl := by
  have hk : k < xs.length := by
    rcases Nat.lt_or_ge k xs.length with h1 | h1
    · exact h1
    · rw [List.drop_eq_nil_of_le h1] at h; cases h
  rw [List.drop_eq_getElem_cons hk] at h
  obtain ⟨h1, h2⟩ := List.cons.inj h
  exact ⟨hk, by rw [List.getD_eq_getElem?_getD, List.getElem?_eq_getElem hk, ← h1]; rfl, h2⟩
theorem KO (x : Int) : 0 ≤ M8 32 x 65535 ∧ M8 32 x 65535 ≤ 65535 := by
  unfold M8
  rw [BitVec.toNat_and]
  have h : (BitVec.ofInt 32 x).toNat &&& (BitVec.ofInt 32 65535).toNat ≤ (BitVec.ofInt 32 65535).toNat := Nat.and_le_right
  have e : (BitVec.ofInt 32 65535).toNat = 65535 := by decide
  rw [e] at h ⊢
  omega
def Qm (metal : List Int) (a : Int) : Prop := 0 ≤ a ∧ a ≤ metal.length
section
variable {metal : List Int}
theorem Se {a t : Int} (h : Qm metal a) (hm : (metal.length : Int) ≤ 9223372036854775807) : ∃ v a' t', Ed metal a t = some (v, a', t') ∧ (0 ≤ v ∧ v ≤ 65535) ∧ Qm metal a' := by
  unfold Qm at h ⊢
  unfold Ed
  have e : ∃ b u, (if a = (metal.length : Int) then some ((0 : Int), (t + 1) % 4294967296) else some (a, t)) = some (b, u) ∧ 0 ≤ b ∧ (0 < (metal.length : Int) → b < metal.length) ∧ b ≤ metal.length := by
    by_cases h1 : a = (metal.length : Int)
    · exact ⟨_, _, if_pos h1, by omega, fun h => h, by omega⟩
    · exact ⟨_, _, if_neg h1, by omega, fun _ => by omega, by omega⟩
  obtain ⟨b, u, e1, e2, e3, e4⟩ := e
  rw [e1, B2, Lv]
  by_cases h2 : 0 < (metal.length : Int)
  · have h3 := e3 h2
    rw [if_pos h2, NV (x := metal.getD b.toNat 0) e2 (I6 (by omega)), Lv, Bz (by unfold Dh; omega), B2]
    generalize Ph 32 _ _ = z
    have hz := KO z
    rw [Bz (AJ (by omega))]
    exact ⟨_, _, _, rfl, hz, by omega, by omega⟩
  · rw [if_neg h2, B2]
    generalize Ph 32 _ _ = z
    have hz := KO z
    rw [Bz (AJ (by omega))]
    exact ⟨_, _, _, rfl, hz, by omega, by omega⟩
theorem JP {a t n : Int} (h : Qm metal a) (hm : (metal.length : Int) ≤ 9223372036854775807) (hn : -1000000 ≤ n ∧ n ≤ 1000000) : ∃ v a' t', Cs metal a t n = some (v, a', t') ∧ 0 ≤ v ∧ (v ≤ n ∨ v = 0) ∧ Qm metal a' := by
  unfold Cs
  obtain ⟨v, a', t', h1, h2, h3⟩ := Se (t := t) h hm
  rw [h1, En, Bz (AJ (by omega)), Bz (by split <;> omega)]
  refine ⟨_, _, _, rfl, ?_, ?_, h3⟩
  · exact Int.tmod_nonneg _ h2.1
  · have aa : 0 < (if n + 1 > 1 then n + 1 else 1) := by split <;> omega
    rw [Int.tmod_eq_emod_of_nonneg h2.1]
    have ab := Int.emod_lt_of_pos v aa
    have ad := Int.emod_nonneg v (Int.ne_of_gt aa)
    generalize v % (if n + 1 > 1 then n + 1 else 1) = z at ab ad
    split at ab <;> omega
theorem MF {a t lo hi : Int} (h : Qm metal a) (hm : (metal.length : Int) ≤ 9223372036854775807) (hl : -1000 ≤ lo ∧ lo ≤ 1000) (hh : -1000 ≤ hi ∧ hi ≤ 1000) : ∃ v a' t', CQ metal a t lo hi = some (v, a', t') ∧ lo ≤ v ∧ (v ≤ hi ∨ v = lo) ∧ Qm metal a' := by
  unfold CQ
  obtain ⟨v, a', t', h1, h2, h3, h4⟩ := JP (t := t) (n := hi - lo) h hm (by omega)
  rw [Bz (AJ (by omega)), h1, En, Bz (AJ (by omega))]
  exact ⟨_, _, _, rfl, by omega, by omega, h4⟩
end
section
variable {metal : List Int}
end
end Go.Proofs.YtfmapnhfamoecaaGreat.Rd
namespace Go.Proofs.YtfmapnhfamoecaaGreat.Rd
open Go.PL
theorem Yd {α : Type} (l : List α) (n : Int) : sl l 0 n = l.take n.toNat := by unfold sl; simp
def bM (i j : Nat) (w : Int) : Prop := (i = j → w = 0) ∧ (i ≠ j → w = -1 ∨ (1 ≤ w ∧ w ≤ 20))
def bJ (H : Int) (x : List Int × Int × Int) : Prop := (1 ≤ x.1.length ∧ x.1.Nodup ∧ ∀ h ∈ x.1, 0 ≤ h ∧ h < H) ∧ (1 ≤ x.2.1 ∧ x.2.1 ≤ 5) ∧ (0 ≤ x.2.2 ∧ x.2.2 ≤ 200)
def total (ns : List (List Int × Int × Int)) : Nat := (ns.map fun x => x.1.length).sum
theorem Uw (ns : List (List Int × Int × Int)) (x : List Int × Int × Int) : total (ns ++ [x]) = total ns + x.1.length := by
  unfold total; simp
structure GO (ws hs : List (List Int)) (H st : Int) (ns : List (List Int × Int × Int)) : Prop where
  Mw : 1 ≤ hs.length ∧ hs.length ≤ 5
  hw : ws.length = hs.length
  hH : 1 ≤ H ∧ H ≤ 5
  HY : 0 ≤ st ∧ st < (hs.length : Int)
  row : ∀ i, i < ws.length → (ws.getD i []).length = hs.length ∧ ∀ j, j < hs.length → bM i j ((ws.getD i []).getD j 0)
  bD : ∀ l ∈ hs, l.Nodup ∧ ∀ h ∈ l, 0 ≤ h ∧ h < H
  hn : ns.length ≤ 3
  note : ∀ x ∈ ns, bJ H x
  bN : total ns ≤ 9
section
variable {metal : List Int}
theorem VM {α : Type} {xs : List α} {x d : α} {i : Nat} : (xs ++ [x]).getD i d = if i < xs.length then xs.getD i d else if i = xs.length then x else d := by
  by_cases h : i < xs.length
  · rw [if_pos h, List.getD_eq_getElem?_getD, List.getD_eq_getElem?_getD, List.getElem?_append_left h]
  · rw [if_neg h]
    by_cases h2 : i = xs.length
    · subst h2; rw [if_pos rfl, List.getD_eq_getElem?_getD, List.getElem?_append_right (Nat.le_refl _)]; simp
    · rw [if_neg h2, List.getD_eq_getElem?_getD, List.getElem?_eq_none (by simp; omega)]; rfl
end
end Go.Proofs.YtfmapnhfamoecaaGreat.Rd
namespace Go.Proofs.YtfmapnhfamoecaaGreat.Rd
open Go.PL
theorem Kf (n lo hi : Int) : Gr n lo hi = some (decide (lo ≤ n ∧ n ≤ hi)) := by
  unfold Gr
  by_cases h : lo ≤ n
  · rw [if_pos h]; congr 1; rw [decide_eq_decide]; omega
  · rw [if_neg h, decide_eq_false (by omega)]
theorem Tq (v : Int) : ∀ (l : List Int) (k : Int), 0 ≤ k → ∃ n, B6 v l k = some n ∧ (0 ≤ n ↔ v ∈ l)
  | [], k, _ => ⟨-1, rfl, by simp⟩
  | x :: l, k, hk => by
    unfold B6
    by_cases h : v = x
    · exact ⟨k, if_pos h, by simp [h, hk]⟩
    · obtain ⟨n, h1, h2⟩ := Tq v l (k + 1) (by omega)
      exact ⟨n, by rw [if_neg h]; exact h1, by rw [h2]; simp [h]⟩
theorem contains_eq (l : List Int) (v : Int) : Bv l v = some (decide (v ∈ l)) := by
  unfold Bv EE
  obtain ⟨n, h1, h2⟩ := Tq v l 0 (Int.le_refl _)
  rw [h1, Ap]; congr 1; rw [decide_eq_decide]; exact h2
theorem Xw {f : List Int → Option Bool} {g : List Int → Bool} : ∀ (l : List (List Int)) (k : Int), 0 ≤ k → (∀ x ∈ l, f x = some (g x)) → ∃ n, Ch f l k = some n ∧ (0 ≤ n ↔ l.any g = true)
  | [], k, _, _ => ⟨-1, rfl, by simp⟩
  | x :: l, k, hk, hf => by
    unfold Ch
    rw [hf x (by simp), Ap]
    cases h : g x with
    | true => exact ⟨k, if_pos rfl, by simp [h, hk]⟩
    | false =>
      obtain ⟨n, h1, h2⟩ := Xw l (k + 1) (by omega) (fun y hy => hf y (by simp [hy]))
      exact ⟨n, by rw [if_neg (by decide)]; exact h1, by rw [h2]; simp [h]⟩
theorem QD {f : List Int → Option Bool} {g : List Int → Bool} {l : List (List Int)} (h : ∀ x ∈ l, f x = some (g x)) : GR l f = some (l.all g) := by
  unfold GR Eb Eu
  obtain ⟨n, h1, h2⟩ := Xw (f := fun aa => EJ aa f) (g := fun x => !g x) l 0 (Int.le_refl _) (fun x hx => by unfold EJ; rw [h x hx, Ap])
  rw [h1, Ap, Ap]
  congr 1
  rw [List.all_eq_not_any_not]
  congr 1
  rw [Bool.eq_iff_iff, decide_eq_true_iff]
  exact h2
section
variable {ws hs : List (List Int)} {H st : Int} {ns : List (List Int × Int × Int)}
theorem UP (h : GO ws hs H st ns) : Fm ws hs H st ns = some true := by
  have h1 := h.Mw
  have h2 := h.hH
  have h3 := h.hn
  have h4 := h.hw
  unfold Fm
  rw [Kf, Ap, if_pos (decide_eq_true (by omega)), Kf, Ap, if_pos (decide_eq_true (by omega)), if_pos (by omega), if_pos (by omega), QD (f := fun aa => EG aa (hs.length : Int)) (g := fun l => decide ((l.length : Int) = (hs.length : Int))) (fun x hx => rfl), Ap]
  congr 1
  rw [List.all_eq_true]
  intro x hx
  obtain ⟨i, hi, rfl⟩ := List.getElem_of_mem hx
  have := (h.row i hi).1
  rw [List.getD_eq_getElem?_getD, List.getElem?_eq_getElem hi, Option.getD_some] at this
  rw [decide_eq_true_iff]; omega
theorem Xy (h : GO ws hs H st ns) (s : Int) : Gs ws hs H st ns s = some (decide (0 ≤ s ∧ s < (hs.length : Int))) := by
  have h1 := h.Mw
  unfold Gs
  rw [Bz (AJ (by omega)), Kf, Ap]
  congr 1; rw [decide_eq_decide]; omega
theorem Pm {k : Nat} {rec2 : Int → Option Bool} {row : List Int} (hr : ∀ j, j < row.length → bM k j (row.getD j 0)) : ∀ (tl : List Int) (j : Nat), row.drop j = tl → C5 (k : Int) rec2 tl (j : Int) = rec2 ((k : Int) + 1)
  | [], _, _ => rfl
  | x :: tl, j, hd => by
    obtain ⟨hj, hx, aa⟩ := drop_cons 0 hd
    have hw := hr j hj
    rw [hx] at hw
    unfold C5
    have ih := Pm (rec2 := rec2) hr tl (j + 1) aa
    by_cases h : k = j
    · rw [if_pos (by omega), if_neg (not_not_intro (hw.1 h)), if_neg (by omega), Ap, if_neg (by decide)]
      exact ih
    · rw [if_neg (by omega), if_pos (by omega)]
      rcases hw.2 h with h1 | h1
      · rw [if_neg (not_not_intro h1), Ap, if_neg (by decide)]
        exact ih
      · rw [if_pos (by omega), Kf, Ap, decide_eq_true h1, Ap, if_neg (by decide)]
        exact ih
theorem Ps (h : GO ws hs H st ns) : ∀ (tl : List (List Int)) (k : Nat), ws.drop k = tl → BY tl (k : Int) = some true
  | [], _, _ => rfl
  | x :: tl, k, hd => by
    obtain ⟨hk, hx, aa⟩ := drop_cons [] hd
    obtain ⟨r1, r2⟩ := h.row k hk
    rw [hx] at r1 r2
    unfold BY
    have e := Pm (k := k) (rec2 := BY tl) (row := x) (fun j hj => r2 j (by omega)) x 0 rfl
    rw [show ((0 : Nat) : Int) = 0 from rfl] at e
    rw [e]
    exact Ps h tl (k + 1) aa
theorem RK (hH : H ≤ 5) {l : List Int} (h0 : -1000 ≤ H) (hd : l.Nodup) (hx : ∀ x ∈ l, 0 ≤ x ∧ x < H) : ∀ (tl : List Int) (k : Nat), l.drop k = tl → Dw H l tl (k : Int) = some 0
  | [], _, _ => rfl
  | x :: tl, k, hk => by
    obtain ⟨h1, h2, h3⟩ := drop_cons 0 hk
    have hm : x ∈ l := by rw [← h2]; exact Gm h1
    have hr := hx x hm
    unfold Dw
    have aa : x ∉ l.take k := by
      intro hc
      have hs : l = l.take k ++ x :: tl := by rw [← hk, List.take_append_drop]
      rw [hs] at hd
      exact (List.nodup_append.1 hd).2.2 x hc x (by simp) rfl
    rw [Bz (AJ (by omega)), Kf, Ap, decide_eq_true (by omega), if_neg (by decide), Bz (by omega), Lv, Yd, contains_eq, Ap, Int.toNat_natCast, decide_eq_false aa, if_neg (by decide)]
    exact RK hH h0 hd hx tl (k + 1) h3
theorem Rx (h : GO ws hs H st ns) {l : List Int} (hd : l.Nodup) (hx : ∀ x ∈ l, 0 ≤ x ∧ x < H) : FC ws hs H st ns l = some 0 := by
  have := h.hH
  exact RK (by omega) (by omega) hd hx l 0 rfl
theorem Mv (h : GO ws hs H st ns) {x : List Int × Int × Int} (hx : bJ H x) : Gk ws hs H st ns x.1 x.2.1 x.2.2 = some 0 := by
  obtain ⟨⟨h1, h2, h3⟩, h4, h5⟩ := hx
  unfold Gk
  rw [if_neg (by omega), Rx h h2 h3, Ap, if_neg (by decide), Kf, Ap, decide_eq_true h4, if_neg (by decide), Kf, Ap, decide_eq_true h5, Ap, if_neg (by decide)]
theorem Th (h : GO ws hs H st ns) : ∀ (tl : List (List Int × Int × Int)) (p : Nat), (∀ x ∈ tl, bJ H x) → p + total tl ≤ 9 → EB ws hs H st ns tl (p : Int) = some 0
  | [], p, _, hp => by
    unfold EB IF
    rw [if_neg (by have : p ≤ 9 := by omega
                   omega)]
  | x :: tl, p, hx, hp => by
    have e : total (x :: tl) = x.1.length + total tl := by unfold total; simp
    rw [e] at hp
    unfold EB
    rw [Mv h (hx x (by simp)), Ap, if_neg (by decide), Bz (AJ (by omega))]
    exact Th h tl (p + x.1.length) (fun y hy => hx y (by simp [hy])) (by omega)
theorem TY (h : GO ws hs H st ns) : ∀ (tl : List (List Int)), (∀ l ∈ tl, l.Nodup ∧ ∀ x ∈ l, 0 ≤ x ∧ x < H) → Ez ws hs H st ns tl = some 0
  | [], _ => by
    unfold Ez Iy
    exact Th h ns 0 h.note (by have := h.bN; omega)
  | x :: tl, hx => by
    unfold Ez
    rw [Rx h (hx x (by simp)).1 (hx x (by simp)).2, Ap, if_neg (by decide)]
    exact TY h tl fun y hy => hx y (by simp [hy])
theorem SV (h : GO ws hs H st ns) : Jd ws hs H st ns = some 0 := by
  unfold Jd
  have hw : Gf ws hs H st ns = some true := Ps h ws 0 rfl
  rw [UP h, Ap, if_neg (by decide), Xy h, Ap, decide_eq_true h.HY, if_neg (by decide), hw, Ap, if_neg (by decide)]
  exact TY h hs h.bD
end
end Go.Proofs.YtfmapnhfamoecaaGreat.Rd
namespace Go.Proofs.YtfmapnhfamoecaaGreat.Rd
open Go.PL
def en (w : List Int) (i k : Nat) : Int := w.getD (i * 5 + k) 0
structure O5 (w : List Int) (B : Int) (i k b : Nat) (v : Int) : Prop where
  K8 : v = -1 ∨ (0 ≤ v ∧ v ≤ 2 * B)
  old : en w i k ≠ -1 → v ≠ -1 ∧ v ≤ en w i k
  bX : ∀ j, j < b → en w i j ≠ -1 → en w j k ≠ -1 → v ≠ -1 ∧ v ≤ en w i j + en w j k
  from_ : v = en w i k ∨ ∃ j, j < 5 ∧ en w i j ≠ -1 ∧ en w j k ≠ -1 ∧ v = en w i j + en w j k
def WG (w : List Int) (B : Int) : Prop := w.length = 25 ∧ ∀ i k, i < 5 → k < 5 → en w i k = -1 ∨ (0 ≤ en w i k ∧ en w i k ≤ B)
theorem J5 {x : Int} (h : -4000000000 ≤ x ∧ x ≤ 4000000000) : Dh x := by unfold Dh; omega
theorem TZ (x y : Int) (hy : 0 ≤ y) : E3 [x, y] = some (if x = -1 then y else if y < x then y else x) := by
  unfold E3 Cw
  by_cases hx : x = -1
  · subst hx
    rw [if_neg (by decide), Ap, if_neg (by decide)]
    unfold Cw
    rw [if_pos (by omega), if_pos rfl, Ap, if_pos rfl, if_pos rfl]
    unfold Cw
    rw [Ap]
  · rw [if_pos hx, if_pos rfl, Ap, if_pos rfl, if_neg hx]
    unfold Cw
    rw [if_pos (by omega), if_neg hx, Ap]
    by_cases h : y < x
    · rw [if_pos (decide_eq_true h), if_pos h]
      unfold Cw
      rw [Ap]
    · rw [if_neg (by simpa using h), if_neg h]
      unfold Cw
      rw [Ap]
theorem X8 {β : Type} {w : List Int} (hl : w.length = 25) {i k : Nat} (hi : i < 5) (hk : k < 5) (f : Int → Option β) : ix w ((i : Int) * 5 + (k : Int)) f = f (en w i k) := by
  have h := Xb (xs := w) (i := i * 5 + k) 0 f (by omega)
  rwa [show ((i * 5 + k : Nat) : Int) = (i : Int) * 5 + (k : Int) by omega] at h
theorem Sb {w : List Int} (hl : w.length = 25) {i k i' k' : Nat} (hi : i < 5) (hk : k < 5) (_aa : i' < 5) (ab : k' < 5) (v : Int) : en (w.set (i * 5 + k) v) i' k' = if i = i' ∧ k = k' then v else en w i' k' := by
  unfold en
  rw [Il (by omega)]
  by_cases h : i = i' ∧ k = k'
  · rw [if_pos (by rw [h.1, h.2]), if_pos h]
  · rw [if_neg (by omega), if_neg h]
section
variable {w : List Int} {B : Int}
theorem Un (hw : WG w B) (hB : 0 ≤ B ∧ B ≤ 1000000000) {i k : Nat} (hi : i < 5) (hk : k < 5) {out : List Int} (ho : out.length = 25) : ∀ (fu b : Nat) (v : Int), b + fu = 5 → O5 w B i k b v →
    ∃ v', Cf w (i : Int) (k : Int) fu (b : Int) (out.set (i * 5 + k) v) = some (out.set (i * 5 + k) v') ∧ O5 w B i k 5 v'
  | 0, b, v, hb, h => ⟨v, rfl, by rwa [show b = 5 by omega] at h⟩
  | fu + 1, b, v, hb, h => by
    have aa : b < 5 := by omega
    have ad : (out.set (i * 5 + k) v).length = 25 := by rw [List.length_set]; exact ho
    unfold Cf
    rw [Bz (by omega), Bz (by omega), X8 hw.1 hi aa]
    have r1 := hw.2 i b hi aa
    have r2 := hw.2 b k aa hk
    by_cases c1 : en w i b ≠ -1 ∧ en w b k ≠ -1
    · obtain ⟨c1, c2⟩ := c1
      have e1 : (if en w i b ≠ -1 then gd (0 ≤ (b : Int) ∧ (b : Int) < 5) (gd (0 ≤ (k : Int) ∧ (k : Int) < 5) (ix w ((b : Int) * 5 + (k : Int)) fun x2 => some (decide (x2 ≠ -1)))) else some false) = some true := by
        rw [if_pos c1, Bz (by omega), Bz (by omega), X8 hw.1 aa hk, decide_eq_true c2]
      have e2 : (i : Int) * 5 + (k : Int) = ((i * 5 + k : Nat) : Int) := by omega
      have e3 : en (out.set (i * 5 + k) v) i k = v := by rw [Sb ho hi hk hi hk, if_pos ⟨rfl, rfl⟩]
      rw [e1, Ap, if_pos rfl, Bz (by omega), Bz (by omega), X8 ad hi hk, e3, Bz (by omega), Bz (by omega), X8 hw.1 hi aa, Bz (by omega), Bz (by omega), X8 hw.1 aa hk, Bz (J5 (by omega)), Bz (by omega), TZ _ _ (by omega), Ap, Bz (by omega), Lv, e2, Int.toNat_natCast, List.set_set]
      refine Un hw hB hi hk ho fu (b + 1) _ (by omega) ⟨?_, ?_, ?_, ?_⟩
      · have := h.K8
        split
        · omega
        · split <;> omega
      · intro h1
        have := h.old h1
        rw [if_neg this.1]
        split <;> omega
      · intro j hj d1 d2
        by_cases ab : j = b
        · subst ab
          split
          · omega
          · split <;> omega
        · have := h.bX j (by omega) d1 d2
          rw [if_neg this.1]
          split <;> omega
      · split
        · exact .inr ⟨b, aa, c1, c2, rfl⟩
        · split
          · exact .inr ⟨b, aa, c1, c2, rfl⟩
          · exact h.from_
    · have e1 : (if en w i b ≠ -1 then gd (0 ≤ (b : Int) ∧ (b : Int) < 5) (gd (0 ≤ (k : Int) ∧ (k : Int) < 5) (ix w ((b : Int) * 5 + (k : Int)) fun x2 => some (decide (x2 ≠ -1)))) else some false) = some false := by
        by_cases d : en w i b ≠ -1
        · rw [if_pos d, Bz (by omega), Bz (by omega), X8 hw.1 aa hk, decide_eq_false (fun d2 => c1 ⟨d, d2⟩)]
        · rw [if_neg d]
      rw [e1, Ap, if_neg (by decide)]
      refine Un hw hB hi hk ho fu (b + 1) v (by omega) ⟨h.K8, h.old, fun j hj d1 d2 => ?_, h.from_⟩
      by_cases ab : j = b
      · subst ab; exact absurd ⟨d1, d2⟩ c1
      · exact h.bX j (by omega) d1 d2
theorem Xd (hw : WG w B) (hB : 0 ≤ B ∧ B ≤ 1000000000) {i : Nat} (hi : i < 5) : ∀ (fu k : Nat) (out : List Int), k + fu = 5 → out.length = 25 →
    (∀ i' k', i' < 5 → k' < 5 → if i' < i ∨ (i' = i ∧ k' < k) then O5 w B i' k' 5 (en out i' k') else en out i' k' = en w i' k') →
    ∃ aa, CG w (i : Int) fu (k : Int) out = some aa ∧ aa.length = 25 ∧ ∀ i' k', i' < 5 → k' < 5 → if i' < i + 1 then O5 w B i' k' 5 (en aa i' k') else en aa i' k' = en w i' k'
  | 0, k, out, hk, ho, h => ⟨out, rfl, ho, fun i' k' h1 h2 => by
      have := h i' k' h1 h2
      by_cases c : i' < i + 1
      · rw [if_pos c]; rwa [if_pos (by omega)] at this
      · rw [if_neg c]; rwa [if_neg (by omega)] at this⟩
  | fu + 1, k, out, hk, ho, h => by
    have ab : k < 5 := by omega
    unfold CG
    have h0 := h i k hi ab
    rw [if_neg (by omega)] at h0
    have hv : out.set (i * 5 + k) (en w i k) = out := by
      rw [← h0]; unfold en
      have ad : i * 5 + k < out.length := by omega
      rw [List.getD_eq_getElem?_getD, List.getElem?_eq_getElem ad, Option.getD_some, List.set_getElem_self]
    have r := hw.2 i k hi ab
    obtain ⟨v', e1, h1⟩ := Un hw hB hi ab ho 5 0 (en w i k) rfl ⟨by omega, fun h => ⟨h, Int.le_refl _⟩, fun j hj => absurd hj (by omega), .inl rfl⟩
    rw [hv] at e1
    have ae : Cf w (i : Int) (k : Int) (Int.toNat (5 - 0)) 0 out = some (out.set (i * 5 + k) v') := e1
    rw [Bz ⟨AJ (by omega), AJ (by omega)⟩, ae, Ap]
    refine Xd hw hB hi fu (k + 1) _ (by omega) (by rw [List.length_set]; exact ho) fun i' k' d1 d2 => ?_
    rw [Sb ho hi ab d1 d2]
    have h2 := h i' k' d1 d2
    by_cases c : i = i' ∧ k = k'
    · rw [if_pos c, if_pos (by omega)]
      obtain ⟨rfl, rfl⟩ := c
      exact h1
    · rw [if_neg c]
      by_cases c2 : i' < i ∨ (i' = i ∧ k' < k)
      · rw [if_pos c2] at h2; rw [if_pos (by omega)]; exact h2
      · rw [if_neg c2] at h2; rw [if_neg (by omega)]; exact h2
theorem Ww (hw : WG w B) (hB : 0 ≤ B ∧ B ≤ 1000000000) : ∀ (fu i : Nat) (out : List Int), i + fu = 5 → out.length = 25 →
    (∀ i' k', i' < 5 → k' < 5 → if i' < i then O5 w B i' k' 5 (en out i' k') else en out i' k' = en w i' k') →
    ∃ aa, CC w fu (i : Int) out = some aa ∧ aa.length = 25 ∧ ∀ i' k', i' < 5 → k' < 5 → O5 w B i' k' 5 (en aa i' k')
  | 0, i, out, hi, ho, h => ⟨out, rfl, ho, fun i' k' h1 h2 => by
      have := h i' k' h1 h2
      rwa [if_pos (by omega)] at this⟩
  | fu + 1, i, out, hi, ho, h => by
    unfold CC
    obtain ⟨aa, e1, h1, h2⟩ := Xd hw hB (i := i) (by omega) 5 0 out rfl ho (fun i' k' d1 d2 => by
      have := h i' k' d1 d2
      by_cases c : i' < i
      · rw [if_pos c] at this; rw [if_pos (.inl c)]; exact this
      · rw [if_neg c] at this; rw [if_neg (by omega)]; exact this)
    have ab : CG w (i : Int) (Int.toNat (5 - 0)) 0 out = some aa := e1
    rw [Bz ⟨AJ (by omega), AJ (by omega)⟩, ab, Ap]
    exact Ww hw hB fu (i + 1) aa (by omega) h1 h2
theorem Qe (hw : WG w B) (hB : 0 ≤ B ∧ B ≤ 1000000000) : ∃ w', De w = some w' ∧ w'.length = 25 ∧ ∀ i k, i < 5 → k < 5 → O5 w B i k 5 (en w' i k) := by
  unfold De
  obtain ⟨w', e1, h1, h2⟩ := Ww hw hB 5 0 w rfl hw.1 (fun i' k' _ _ => by rw [if_neg (by omega)])
  have aa : CC w (Int.toNat (5 - 0)) 0 w = some w' := e1
  rw [Bz ⟨AJ (by omega), AJ (by omega)⟩, aa, Ap]
  exact ⟨w', rfl, h1, h2⟩
end
end Go.Proofs.YtfmapnhfamoecaaGreat.Rd
namespace Go.Proofs.YtfmapnhfamoecaaGreat.Rd
open Go.PL
def sm (F : Int → Nat) (w : List Int) : Nat := (w.map F).sum
theorem Wr {F : Int → Nat} : ∀ (w w' : List Int), w'.length = w.length → (∀ q, q < w.length → F (w'.getD q 0) ≤ F (w.getD q 0)) → sm F w' ≤ sm F w
  | [], [], _, _ => Nat.le_refl _
  | [], _ :: _, h, _ => by simp at h
  | _ :: _, [], h, _ => by simp at h
  | a :: w, b :: w', h, hq => by
    have h0 := hq 0 (by simp)
    have ih := Wr w w' (by simpa using h) fun q aa => by
      have := hq (q + 1) (by simpa using aa)
      simpa using this
    unfold sm at *
    simp only [List.map_cons, List.sum_cons]
    have ab : F b ≤ F a := by simpa using h0
    omega
theorem XX {F : Int → Nat} : ∀ (w w' : List Int), w'.length = w.length → (∀ q, q < w.length → F (w'.getD q 0) ≤ F (w.getD q 0)) → (∃ q, q < w.length ∧ F (w'.getD q 0) < F (w.getD q 0)) → sm F w' < sm F w
  | [], _, _, _, ⟨q, hq, _⟩ => by simp at hq
  | _ :: _, [], h, _, _ => by simp at h
  | a :: w, b :: w', h, hq, ⟨q, ab, aa⟩ => by
    have h0 : F b ≤ F a := by simpa using hq 0 (by simp)
    have hr : ∀ q, q < w.length → F (w'.getD q 0) ≤ F (w.getD q 0) := fun q ad => by
      have := hq (q + 1) (by simpa using ad)
      simpa using this
    have hl : w'.length = w.length := by simpa using h
    have hle := Wr w w' hl hr
    unfold sm at *
    simp only [List.map_cons, List.sum_cons]
    cases q with
    | zero =>
      have : F b < F a := by simpa using aa
      omega
    | succ q =>
      have := XX w w' hl hr ⟨q, by simpa using ab, by simpa using aa⟩
      unfold sm at this
      omega
def fW (e : Int) : Nat := if e = -1 then 1000000000000 else e.toNat
def gW (e : Int) : Nat := if e = -1 then 1 else 0
theorem WN {F : Int → Nat} {M : Nat} : ∀ (w : List Int), (∀ e ∈ w, F e ≤ M) → sm F w ≤ w.length * M
  | [], _ => by simp [sm]
  | a :: w, h => by
    have ih := WN w fun e he => h e (by simp [he])
    have h0 := h a (by simp)
    unfold sm at *
    simp only [List.map_cons, List.sum_cons, List.length_cons, Nat.succ_mul]
    omega
structure aE (S : Nat) (w : List Int) : Prop where
  diag : ∀ i, i < S → i < 5 → en w i i = 0
  out : ∀ i k, i < 5 → k < 5 → ¬ (i < S ∧ k < S) → en w i k = -1
  pos : ∀ i k, i < 5 → k < 5 → i ≠ k → en w i k = -1 ∨ 1 ≤ en w i k
theorem NF {w : List Int} {q : Nat} : en w (q / 5) (q % 5) = w.getD q 0 := by
  unfold en; congr 1; omega
theorem aE.dE {S : Nat} {w w' : List Int} {B : Int} (h : aE S w) (hw : WG w B) (ht : ∀ i k, i < 5 → k < 5 → O5 w B i k 5 (en w' i k)) : aE S w' where
  diag := fun i h1 h2 => by
    have h3 := ht i i h2 h2
    have h4 := h.diag i h1 h2
    have h5 := h3.old (by omega)
    have h6 := h3.K8
    omega
  out := fun i k h1 h2 h3 => by
    rcases (ht i k h1 h2).from_ with h4 | ⟨j, h4, h5, h6, _⟩
    · rw [h4]; exact h.out i k h1 h2 h3
    · by_cases c : i < S
      · have : ¬ (j < S ∧ k < S) := fun c2 => h3 ⟨c, c2.2⟩
        exact absurd (h.out j k h4 h2 this) h6
      · exact absurd (h.out i j h1 h4 (fun c2 => c c2.1)) h5
  pos := fun i k h1 h2 h3 => by
    rcases (ht i k h1 h2).from_ with h4 | ⟨j, h4, h5, h6, h7⟩
    · rw [h4]; exact h.pos i k h1 h2 h3
    · have r1 := hw.2 i j h1 h4
      have r2 := hw.2 j k h4 h2
      by_cases c : i = j
      · have := h.pos j k h4 h2 (by omega)
        omega
      · have := h.pos i j h1 h4 c
        omega
structure V8 (S : Nat) (w : List Int) : Prop where
  len : w.length = 25
  cT : aE S w
  K8 : ∀ i k, i < 5 → k < 5 → en w i k = -1 ∨ (0 ≤ en w i k ∧ en w i k ≤ 1000000000)
  cY : ∀ i j k, i < 5 → j < 5 → k < 5 → en w i j ≠ -1 → en w j k ≠ -1 → en w i k ≠ -1 ∧ en w i k ≤ en w i j + en w j k
theorem WG.EP {w : List Int} {B : Int} (h : WG w B) (hB : B ≤ 4000000000) : ∀ x ∈ w, Dh x := fun x hx => by
  obtain ⟨q, hq, rfl⟩ := List.getElem_of_mem hx
  have h1 := h.1
  have h2 := h.2 (q / 5) (q % 5) (by omega) (by omega)
  rw [NF, List.getD_eq_getElem?_getD, List.getElem?_eq_getElem hq, Option.getD_some] at h2
  exact J5 (by omega)
theorem WA {S : Nat} {Q : List Int → Prop} (hQ : ∀ (w w' : List Int) (B : Int), Q w → (∀ i k, i < 5 → k < 5 → O5 w B i k 5 (en w' i k)) → Q w') : ∀ (fu : Nat) (w w' : List Int) (B : Nat), Q w → WG w (B : Int) → B ≤ 20 * 2 ^ (25 - sm gW w) → sm gW w ≤ 25 → aE S w → w'.length = 25 → (∀ i k, i < 5 → k < 5 → O5 w (B : Int) i k 5 (en w' i k)) → sm fW w < fu →
    ∃ r, DY fu w w' = some r ∧ V8 S r ∧ Q r
  | 0, _, _, _, _, _, _, _, _, _, _, h => by omega
  | fu + 1, w, w', B, hq, hw, hB, hc, hs, hl, ht, hf => by
    have hp : (2 : Nat) ^ (25 - sm gW w) ≤ 2 ^ 25 := Nat.pow_le_pow_right (by decide) (by omega)
    have ao : B ≤ 671088640 := by
      have : (20 : Nat) * 2 ^ 25 = 671088640 := by decide
      omega
    have ah : WG w' (2 * (B : Int)) := ⟨hl, fun i k h1 h2 => (ht i k h1 h2).K8⟩
    have aq := hw.1
    unfold DY
    rw [Bz (ah.EP (by omega)), Bz (hw.EP (by omega))]
    by_cases he : w' = w
    · rw [if_neg (not_not_intro he)]
      subst he
      refine ⟨w', rfl, ⟨hl, hs, fun i k h1 h2 => ?_, fun i j k h1 h2 h3 h4 h5 => (ht i k h1 h3).bX j h2 h4 h5⟩, hq⟩
      have := hw.2 i k h1 h2
      omega
    · rw [if_pos he]
      have ad : ∀ q, q < 25 → O5 w (B : Int) (q / 5) (q % 5) 5 (w'.getD q 0) := fun q hq => by
        have := ht (q / 5) (q % 5) (by omega) (by omega)
        rwa [NF] at this
      have ai : ∀ q, q < 25 → w.getD q 0 = -1 ∨ (0 ≤ w.getD q 0 ∧ w.getD q 0 ≤ (B : Int)) := fun q hq => by
        have := hw.2 (q / 5) (q % 5) (by omega) (by omega)
        rwa [NF] at this
      have ae : ∀ q, q < w.length → fW (w'.getD q 0) ≤ fW (w.getD q 0) := fun q hq => by
        have t := ad q (by omega)
        have o := t.old; have rg := t.K8; have z := ai q (by omega)
        rw [NF] at o
        unfold fW
        by_cases c : w.getD q 0 = -1
        · rw [if_pos c]; split <;> omega
        · rw [if_neg c, if_neg (o c).1]
          have := (o c).2
          omega
      have GK : ∃ q, q < w.length ∧ w'.getD q 0 ≠ w.getD q 0 := Classical.byContradiction fun hn => he (Iz (d := 0) (by omega) fun t ar => Classical.byContradiction fun GK => hn ⟨t, by omega, GK⟩)
      have al : sm fW w' < sm fW w := by
        refine XX w w' (by omega) ae ?_
        obtain ⟨q, hq, hd⟩ := GK
        refine ⟨q, hq, ?_⟩
        have t := ad q (by omega)
        have o := t.old; have rg := t.K8; have z := ai q (by omega)
        rw [NF] at o
        unfold fW
        by_cases c : w.getD q 0 = -1
        · rw [if_pos c, if_neg (by omega)]; omega
        · rw [if_neg c, if_neg (o c).1]
          have := (o c).2
          omega
      have aa : ∀ q, q < w.length → gW (w'.getD q 0) ≤ gW (w.getD q 0) := fun q hq => by
        have o := (ad q (by omega)).old
        rw [NF] at o
        unfold gW
        by_cases c : w.getD q 0 = -1
        · rw [if_pos c]; split <;> omega
        · rw [if_neg c, if_neg (o c).1]; exact Nat.le_refl _
      have aj := Wr w w' (by omega) aa
      have key : ∃ B' : Nat, WG w' (B' : Int) ∧ B' ≤ 20 * 2 ^ (25 - sm gW w') := by
        by_cases c : ∃ q, q < w.length ∧ w.getD q 0 = -1 ∧ w'.getD q 0 ≠ -1
        · obtain ⟨q, hq, d1, d2⟩ := c
          have au : sm gW w' < sm gW w := XX w w' (by omega) aa ⟨q, hq, by unfold gW; rw [if_neg d2, if_pos d1]; decide⟩
          refine ⟨2 * B, by simpa using ah, ?_⟩
          have ak : (2 : Nat) ^ (25 - sm gW w') = 2 ^ (25 - sm gW w) * 2 ^ (sm gW w - sm gW w') := by rw [← Nat.pow_add]; congr 1; omega
          have h2 : 2 ≤ (2 : Nat) ^ (sm gW w - sm gW w') := by
            have := Nat.pow_le_pow_right (n := 2) (by decide) (show 1 ≤ sm gW w - sm gW w' by omega)
            simpa using this
          have h3 : 2 ^ (25 - sm gW w) * 2 ≤ 2 ^ (25 - sm gW w) * 2 ^ (sm gW w - sm gW w') := Nat.mul_le_mul_left _ h2
          rw [ak]
          omega
        · refine ⟨B, ⟨hl, fun i k h1 h2 => ?_⟩, ?_⟩
          · have t := ht i k h1 h2
            have z := hw.2 i k h1 h2
            by_cases d : en w i k = -1
            · left
              refine Classical.byContradiction fun hn => c ⟨i * 5 + k, by omega, d, hn⟩
            · have := t.old d
              have := t.K8
              omega
          · have ak : (2 : Nat) ^ (25 - sm gW w) ≤ 2 ^ (25 - sm gW w') := Nat.pow_le_pow_right (by decide) (by omega)
            omega
      obtain ⟨B', ab, af⟩ := key
      have av : (2 : Nat) ^ (25 - sm gW w') ≤ 2 ^ 25 := Nat.pow_le_pow_right (by decide) (by omega)
      have aw : B' ≤ 671088640 := by
        have : (20 : Nat) * 2 ^ 25 = 671088640 := by decide
        omega
      obtain ⟨w2, e2, g1, g2⟩ := Qe ab (by omega)
      rw [e2, Ap]
      exact WA hQ fu w' w2 B' (hQ w w' B hq ht) ab af (by omega) (hs.dE hw ht) g1 g2 (by omega)
end Go.Proofs.YtfmapnhfamoecaaGreat.Rd
namespace Go.Proofs.YtfmapnhfamoecaaGreat.Rd
open Go.PL
def E0 (ws : List (List Int)) (i k : Nat) : Int := if i < ws.length ∧ k < ws.length then (ws.getD i []).getD k 0 else -1
section
variable {ws hs : List (List Int)} {H st : Int} {ns : List (List Int × Int × Int)}
theorem Vh (h : GO ws hs H st ns) {i : Nat} (hi : i < 5) : ∀ (fu k : Nat) (out : List Int), k + fu = 5 → out.length = 25 → (∀ i' k', i' < 5 → k' < 5 → i' < i ∨ (i' = i ∧ k' < k) → en out i' k' = E0 ws i' k') →
    ∃ aa, Dz ws (i : Int) fu (k : Int) out = some aa ∧ aa.length = 25 ∧ ∀ i' k', i' < 5 → k' < 5 → i' < i + 1 → en aa i' k' = E0 ws i' k'
  | 0, k, out, hk, ho, he => ⟨out, rfl, ho, fun i' k' h1 h2 h3 => he i' k' h1 h2 (by omega)⟩
  | fu + 1, k, out, hk, ho, he => by
    have ad : k < 5 := by omega
    have hw := h.hw
    have e2 : (i : Int) * 5 + (k : Int) = ((i * 5 + k : Nat) : Int) := by omega
    have ae : (out.set (i * 5 + k) (-1)).length = 25 := by rw [List.length_set]; exact ho
    unfold Dz
    rw [Bz (by omega), Bz (by omega), X8 ho hi ad, Lv, e2, Int.toNat_natCast]
    have step : ∀ ab : List Int, ab.length = 25 → (∀ i' k', i' < 5 → k' < 5 → en ab i' k' = if i = i' ∧ k = k' then E0 ws i k else en out i' k') →
        ∃ aa, Dz ws (i : Int) fu ((k : Int) + 1) ab = some aa ∧ aa.length = 25 ∧ ∀ i' k', i' < 5 → k' < 5 → i' < i + 1 → en aa i' k' = E0 ws i' k' := by
      intro ab hl hv
      refine Vh h hi fu (k + 1) ab (by omega) hl fun i' k' h1 h2 h3 => ?_
      rw [hv i' k' h1 h2]
      by_cases c : i = i' ∧ k = k'
      · rw [if_pos c, c.1, c.2]
      · rw [if_neg c]; exact he i' k' h1 h2 (by omega)
    by_cases c : i < ws.length ∧ k < ws.length
    · have hr := (h.row i c.1).1
      rw [if_pos (by omega), decide_eq_true (by omega), Ap, if_pos rfl, Xb [] _ c.1, Xb 0 _ (by omega), Bz (by omega), Bz (by omega), ← e2, X8 ae hi ad, Lv, List.set_set]
      refine step _ (by rw [List.length_set]; exact ho) fun i' k' h1 h2 => ?_
      rw [Sb ho hi ad h1 h2]
      unfold E0
      rw [if_pos c]
    · have e3 : (if (i : Int) < (ws.length : Int) then some (decide ((k : Int) < (ws.length : Int))) else some false) = some false := by
        by_cases d : i < ws.length
        · rw [if_pos (by omega), decide_eq_false (by omega)]
        · rw [if_neg (by omega)]
      rw [e3, Ap, if_neg (by decide)]
      refine step _ ae fun i' k' h1 h2 => ?_
      rw [Sb ho hi ad h1 h2]
      unfold E0
      rw [if_neg c]
theorem Va (h : GO ws hs H st ns) : ∀ (fu i : Nat) (out : List Int), i + fu = 5 → out.length = 25 → (∀ i' k', i' < 5 → k' < 5 → i' < i → en out i' k' = E0 ws i' k') →
    ∃ aa, Dy ws fu (i : Int) out = some aa ∧ aa.length = 25 ∧ ∀ i' k', i' < 5 → k' < 5 → en aa i' k' = E0 ws i' k'
  | 0, i, out, hi, ho, he => ⟨out, rfl, ho, fun i' k' h1 h2 => he i' k' h1 h2 (by omega)⟩
  | fu + 1, i, out, hi, ho, he => by
    unfold Dy
    obtain ⟨aa, e1, h1, h2⟩ := Vh h (i := i) (by omega) 5 0 out rfl ho (fun i' k' d1 d2 d3 => he i' k' d1 d2 (by omega))
    have ab : Dz ws (i : Int) (Int.toNat (5 - 0)) 0 out = some aa := e1
    rw [Bz ⟨AJ (by omega), AJ (by omega)⟩, ab, Ap]
    exact Va h fu (i + 1) aa (by omega) h1 h2
theorem RF (h : GO ws hs H st ns) {Q : List Int → Prop} (hQ : ∀ (w w' : List Int) (B : Int), Q w → (∀ i k, i < 5 → k < 5 → O5 w B i k 5 (en w' i k)) → Q w') (aa : ∀ w, (∀ i k, i < 5 → k < 5 → en w i k = E0 ws i k) → Q w) : ∃ c0 a c, Dy ws (Int.toNat (5 - 0)) 0 (List.replicate 25 0) = some c0 ∧ De c0 = some a ∧ DY FU c0 a = some c ∧ V8 hs.length c ∧ Q c := by
  obtain ⟨c0, e1, h1, h2⟩ := Va h 5 0 (List.replicate 25 0) rfl (by simp) (fun i' k' _ _ d => absurd d (by omega))
  have ab : Dy ws (Int.toNat (5 - 0)) 0 (List.replicate 25 0) = some c0 := e1
  have hw := h.hw
  have hv : ∀ i k, i < 5 → k < 5 → (i < hs.length ∧ k < hs.length → bM i k (en c0 i k)) ∧ (¬ (i < hs.length ∧ k < hs.length) → en c0 i k = -1) := fun i k d1 d2 => by
    rw [h2 i k d1 d2]
    unfold E0
    rw [hw]
    refine ⟨fun c => ?_, fun c => by rw [if_neg c]⟩
    rw [if_pos c]
    exact (h.row i (by omega)).2 k c.2
  have hT : WG c0 ((20 : Nat) : Int) := ⟨h1, fun i k d1 d2 => by
    by_cases c : i < hs.length ∧ k < hs.length
    · have := (hv i k d1 d2).1 c
      by_cases e : i = k
      · have := this.1 e; omega
      · have := this.2 e; omega
    · exact .inl ((hv i k d1 d2).2 c)⟩
  have hS : aE hs.length c0 := ⟨fun i d1 d2 => ((hv i i d2 d2).1 ⟨d1, d1⟩).1 rfl, fun i k d1 d2 d3 => (hv i k d1 d2).2 d3, fun i k d1 d2 d3 => by
    by_cases c : i < hs.length ∧ k < hs.length
    · have := ((hv i k d1 d2).1 c).2 d3; omega
    · exact .inl ((hv i k d1 d2).2 c)⟩
  have hg : sm gW c0 ≤ 25 := by
    have := WN (F := gW) (M := 1) c0 fun e _ => by unfold gW; split <;> omega
    omega
  have hf : sm fW c0 < FU := by
    have : sm fW c0 ≤ c0.length * 1000000000000 := WN (F := fW) (M := 1000000000000) c0 fun e he => by
      obtain ⟨q, hq, rfl⟩ := List.getElem_of_mem he
      have := hT.2 (q / 5) (q % 5) (by omega) (by omega)
      rw [NF, List.getD_eq_getElem?_getD, List.getElem?_eq_getElem hq, Option.getD_some] at this
      unfold fW; split <;> omega
    rw [h1] at this
    have hF : FU = 18446744073709551616 := rfl
    omega
  have ad : 20 ≤ 20 * 2 ^ (25 - sm gW c0) := by
    have : 1 ≤ (2 : Nat) ^ (25 - sm gW c0) := Nat.one_le_two_pow
    omega
  obtain ⟨a, e2, g1, g2⟩ := Qe hT (by omega)
  obtain ⟨r, e3, hr, hq⟩ := WA hQ FU c0 a 20 (aa c0 h2) hT ad hg hS g1 g2 hf
  exact ⟨c0, a, r, ab, e2, e3, hr, hq⟩
theorem Wq (h : GO ws hs H st ns) : ∃ c0 a c, Dy ws (Int.toNat (5 - 0)) 0 (List.replicate 25 0) = some c0 ∧ De c0 = some a ∧ DY FU c0 a = some c ∧ V8 hs.length c := by
  obtain ⟨c0, a, c, h1, h2, h3, h4, _⟩ := RF h (Q := fun _ => True) (fun _ _ _ _ _ => trivial) (fun _ _ => trivial)
  exact ⟨c0, a, c, h1, h2, h3, h4⟩
end
end Go.Proofs.YtfmapnhfamoecaaGreat.Rd
namespace Go.Proofs.YtfmapnhfamoecaaGreat.Rd
open Go.PL
theorem Ia {β : Type} {xs : List Int} {i : Int} (f : Int → Option β) (h0 : 0 ≤ i) (h1 : i < (xs.length : Int)) : ix xs i f = f (xs.getD i.toNat 0) := Zm 0 f h0 h1
theorem QZ (x y : Int) : GH x y = some (decide (x < y)) := by
  unfold GH GV
  simp
theorem W8 {a : List Int} {x : Int} {tl : List Int} : (a ++ x :: tl).getD a.length 0 = x := by
  rw [List.getD_eq_getElem?_getD, List.getElem?_append_right (Nat.le_refl _), Nat.sub_self]; rfl
theorem WI {a : List Int} {x y : Int} {tl : List Int} : (a ++ x :: tl).set a.length y = a ++ y :: tl := by
  rw [List.set_append_right (h := Nat.le_refl _), Nat.sub_self, List.set_cons_zero]
theorem Qg {x : Int} {tl : List Int} : ∀ (n fu : Nat) (A B : List Int), A.length = n → n < fu → n + B.length + tl.length ≤ 100000 → (A ++ B).Pairwise (· ≤ ·) → (∀ b ∈ B, x ≤ b) → ∃ R, Be 0 fu (A ++ x :: (B ++ tl)) (n : Int) = some (R ++ tl) ∧ R.Perm (A ++ x :: B) ∧ R.Pairwise (· ≤ ·)
  | _, 0, _, _, _, h, _, _, _ => absurd h (Nat.not_lt_zero _)
  | 0, fu + 1, A, B, hA, _, _, hs, hB => by
    have : A = [] := List.eq_nil_of_length_eq_zero hA
    subst this
    refine ⟨x :: B, ?_, .refl _, List.pairwise_cons.2 ⟨hB, hs⟩⟩
    unfold Be
    rw [if_neg (by omega), Ap, if_neg (by decide)]; rfl
  | n + 1, fu + 1, A, B, hA, hf, hl, hs, hB => by
    have GK : A ≠ [] := fun h => by rw [h] at hA; simp at hA
    obtain ⟨A0, y, rfl⟩ : ∃ A0 y, A = A0 ++ [y] := ⟨A.dropLast, A.getLast GK, (List.dropLast_concat_getLast GK).symm⟩
    have aa : A0.length = n := by simpa using hA
    have e1 : A0 ++ [y] ++ x :: (B ++ tl) = A0 ++ y :: x :: (B ++ tl) := by simp
    have g1 : (A0 ++ [y] ++ x :: (B ++ tl)).getD (n + 1) 0 = x := by
      have := W8 (a := A0 ++ [y]) (x := x) (tl := B ++ tl)
      rw [List.length_append, List.length_singleton, aa] at this
      exact this
    have g2 : (A0 ++ [y] ++ x :: (B ++ tl)).getD n 0 = y := by
      rw [e1, ← aa]; exact W8
    have hlen : (A0 ++ [y] ++ x :: (B ++ tl)).length = n + 1 + 1 + B.length + tl.length := by simp [aa]; omega
    have s1 : (A0 ++ [y] ++ x :: (B ++ tl)).set (n + 1) y = A0 ++ y :: y :: (B ++ tl) := by
      have := WI (a := A0 ++ [y]) (x := x) (y := y) (tl := B ++ tl)
      rw [List.length_append, List.length_singleton, aa] at this
      rw [this]; simp
    have s2 : (A0 ++ y :: y :: (B ++ tl)).set n x = A0 ++ x :: ((y :: B) ++ tl) := by
      rw [← aa]; exact WI
    have Mw := List.pairwise_append.1 hs
    have ab := List.pairwise_append.1 Mw.1
    unfold Be
    rw [if_pos (by omega), Wm _ (by omega), g1, Bz (AJ (by omega)), show ((n + 1 : Nat) : Int) - 1 = (n : Int) by omega, Wm _ (by omega), g2, QZ, Ap, Ap]
    by_cases hc : x < y
    · have G6 : (A0 ++ (y :: B)).Pairwise (· ≤ ·) := by
        have : A0 ++ (y :: B) = A0 ++ [y] ++ B := by simp
        rw [this]; exact hs
      obtain ⟨R, r1, r2, r3⟩ := Qg (x := x) (tl := tl) n fu A0 (y :: B) aa (by omega) (by rw [List.length_cons]; omega) G6 (fun b hb => by
        rcases List.mem_cons.1 hb with rfl | hb
        · omega
        · exact hB b hb)
      refine ⟨R, ?_, r2.trans ?_, r3⟩
      · rw [if_pos (decide_eq_true hc), Bz (AJ (by omega)), Bz (AJ (by omega)), Wm _ (by omega), g2, Wm _ (by omega), g1, Lv, Int.toNat_natCast, s1, Wm _ (by simp [aa]), Lv, Int.toNat_natCast, s2, Bz (AJ (by omega)), r1]
      · rw [List.append_assoc]
        exact (List.Perm.swap y x B).append_left A0
    · refine ⟨A0 ++ [y] ++ x :: B, ?_, .refl _, ?_⟩
      · rw [if_neg (by rw [decide_eq_true_iff]; exact hc)]
        simp
      · refine List.pairwise_append.2 ⟨Mw.1, List.pairwise_cons.2 ⟨hB, Mw.2.1⟩, fun a ha b hb => ?_⟩
        rcases List.mem_cons.1 hb with rfl | hb
        · have : a ≤ y := by
            rcases List.mem_append.1 ha with h | h
            · exact ab.2.2 a h y (List.mem_singleton.2 rfl)
            · rw [List.mem_singleton] at h; omega
          omega
        · exact Mw.2.2 a ha b hb
theorem QS : ∀ (tl P : List Int), P.length + tl.length ≤ 10000 → P.Pairwise (· ≤ ·) → ∃ R, Bn 0 tl.length (P.length : Int) (P ++ tl) = some R ∧ R.Perm (P ++ tl) ∧ R.Pairwise (· ≤ ·)
  | [], P, _, hs => ⟨P, by rw [List.append_nil]; rfl, by rw [List.append_nil], hs⟩
  | x :: tl, P, hl, hs => by
    rw [List.length_cons] at hl
    obtain ⟨R, r1, r2, r3⟩ := Qg (x := x) (tl := tl) P.length FU P [] rfl (by unfold FU; omega) (by simp; omega) (by rw [List.append_nil]; exact hs) (fun _ h => nomatch h)
    rw [List.nil_append] at r1
    have aa : R.length = P.length + 1 := by rw [r2.length_eq]; simp
    obtain ⟨S, q1, q2, q3⟩ := QS tl R (by omega) r3
    refine ⟨S, ?_, q2.trans ?_, q3⟩
    · rw [List.length_cons]; unfold Bn
      rw [r1, Ap, show (P.length : Int) + 1 = (R.length : Int) by omega]
      exact q1
    · have := r2.append_right tl
      rw [List.append_assoc] at this
      exact this
theorem UC {s : List Int} (hl : s.length ≤ 10000) : ∃ R, BS s 0 (s.length : Int) = some R ∧ R.Perm s ∧ R.Pairwise (· ≤ ·) := by
  unfold BS
  rw [Bz (AJ (by omega)), Bz ⟨AJ (by omega), AJ (by omega)⟩]
  match s, hl with
  | [], _ => exact ⟨[], rfl, .refl _, List.Pairwise.nil⟩
  | x :: tl, hl =>
    rw [List.length_cons] at hl
    obtain ⟨R, r1, r2, r3⟩ := QS tl [x] (by simp; omega) (by simp)
    refine ⟨R, ?_, r2, r3⟩
    rw [show Int.toNat (((x :: tl).length : Int) - (0 + 1)) = tl.length by rw [List.length_cons]; omega]
    exact r1
theorem Ug {s : List Int} (hl : s.length ≤ 12) (fu : Nat) (aa : Int) : ∃ R, BD (fu + 1) s 0 (s.length : Int) aa = some R ∧ R.Perm s ∧ R.Pairwise (· ≤ ·) := by
  obtain ⟨R, r1, r2, r3⟩ := UC (s := s) (by omega)
  refine ⟨R, ?_, r2, r3⟩
  unfold BD Du
  show BM s 0 (s.length : Int) (18446744073709551615 + 1) = some R
  unfold BM
  rw [Bz (AJ (by omega)), Bz (by omega), r1, Ap]
theorem Qt : ((List.range 256).all fun k : Nat => (FP ((k : Int) % 18446744073709551616)).isSome) = true := by decide +kernel
theorem SJ {k : Nat} (h : k < 256) : ∃ n, FP ((k : Int) % 18446744073709551616) = some n := by
  have := (List.all_eq_true.1 Qt) k (List.mem_range.2 h)
  exact Option.isSome_iff_exists.1 this
theorem SO {s : List Int} (hl : s.length ≤ 12) : ∃ R, DM s = some R ∧ R.Perm s ∧ R.Pairwise (· ≤ ·) := by
  obtain ⟨n, hn⟩ := SJ (k := s.length) (by omega)
  obtain ⟨R, h1, h2⟩ := Ug hl 18446744073709551615 n
  refine ⟨R, ?_, h2⟩
  have aa : BD FU s 0 (s.length : Int) n = some R := h1
  unfold DM
  rw [hn, Ap, aa, Ap]
theorem values_eq : ∀ l : List Int, Cr l = some l := fun l => by
  have key : ∀ l : List Int, BN l = some l := fun l => by
    induction l with
    | nil => rfl
    | cons x l ih => unfold BN; rw [ih]; rfl
  unfold Cr D6
  rw [key, Ap]
theorem K9 : ∀ (l acc : List Int), acc.length + l.length ≤ 100000 → Bt l acc = some (acc ++ l)
  | [], acc, _ => by simp [Bt]
  | x :: l, acc, h => by
    rw [List.length_cons] at h
    unfold Bt
    rw [Km (by simp; omega), K9 l (acc ++ [x]) (by simp; omega)]
    simp
theorem P3 {s : List Int} (hl : s.length ≤ 12) : ∃ R, (b1 (Cr s) fun y => Eh y) = some R ∧ R.Perm s ∧ R.Pairwise (· ≤ ·) := by
  obtain ⟨R, h1, h2⟩ := SO hl
  refine ⟨R, ?_, h2⟩
  unfold Eh Ff DT
  rw [values_eq, Ap, K9 s [] (by simp; omega), Ap, Ap, List.nil_append, Ap, h1, Ap]
end Go.Proofs.YtfmapnhfamoecaaGreat.Rd
namespace Go.Proofs.YtfmapnhfamoecaaGreat.Rd
open Go.PL
theorem R2 {x y : Nat} (hx : x < 9223372036854775808) (hy : y < 9223372036854775808) : OD (x : Int) (y : Int) = ((x ||| y : Nat) : Int) := by
  have ho : x ||| y < 2 ^ 63 := Nat.or_lt_two_pow hx hy
  unfold OD
  rw [BitVec.ofInt_natCast, BitVec.ofInt_natCast]
  have e : (BitVec.ofNat 64 x ||| BitVec.ofNat 64 y).toNat = x ||| y := by
    rw [BitVec.toNat_or, BitVec.toNat_ofNat, BitVec.toNat_ofNat, Nat.mod_eq_of_lt (by omega), Nat.mod_eq_of_lt (by omega)]
  rw [BitVec.toInt_eq_toNat_of_lt (by rw [e]; omega), e]
def Lq (x y : Nat) : Nat := x ^^^ (x &&& y)
theorem MH (x y i : Nat) : (Lq x y).testBit i = (x.testBit i && !y.testBit i) := by
  unfold Lq
  rw [Nat.testBit_xor, Nat.testBit_and]
  cases x.testBit i <;> cases y.testBit i <;> rfl
theorem Zx {x y n : Nat} (h : x < 2 ^ n) : Lq x y < 2 ^ n := Nat.xor_lt_two_pow h (Nat.lt_of_le_of_lt Nat.and_le_left h)
theorem Rz {x y : Nat} (hx : x < 9223372036854775808) (_hy : y < 9223372036854775808) : LN (x : Int) (y : Int) = (Lq x y : Int) := by
  have ho : Lq x y < 2 ^ 63 := Zx hx
  unfold LN
  rw [BitVec.ofInt_natCast, BitVec.ofInt_natCast]
  have e0 : (BitVec.ofNat 64 x &&& ~~~ BitVec.ofNat 64 y) = BitVec.ofNat 64 (Lq x y) := by
    apply BitVec.eq_of_getLsbD_eq
    intro i hi
    rw [BitVec.getLsbD_and, BitVec.getLsbD_not, BitVec.getLsbD_ofNat, BitVec.getLsbD_ofNat, BitVec.getLsbD_ofNat, MH]
    simp [hi]
  have e : (BitVec.ofNat 64 (Lq x y)).toNat = Lq x y := by rw [BitVec.toNat_ofNat, Nat.mod_eq_of_lt (by omega)]
  rw [e0, BitVec.toInt_eq_toNat_of_lt (by rw [e]; omega), e]
theorem RY (k : Nat) : shl 1 (k : Int) = ((2 ^ k : Nat) : Int) := by
  unfold shl
  rw [Int.one_mul, Int.toNat_natCast]; simp
theorem Zb {k : Nat} (h : k < 60) : (0 ≤ (k : Int) ∧ (k : Int) < 64) ∧ Dh (shl 1 (k : Int)) := by
  have h1 : 2 ^ k < 2 ^ 60 := Nat.pow_lt_pow_right (by decide) h
  have h2 : (0 : Nat) < 2 ^ k := Nat.pow_pos (by decide)
  rw [RY]
  unfold Dh
  omega
def Q8 (hit : List Int) (Q : Nat → Nat → Nat → Bool) : Prop := hit.length = 15 ∧ ∀ s n, s < 5 → n < 3 → ∃ v : Nat, hit.getD (s * 3 + n) 0 = (v : Int) ∧ v < 512 ∧ ∀ p, v.testBit p = Q s n p
theorem Q8.congr {hit : List Int} {Q Q' : Nat → Nat → Nat → Bool} (h : Q8 hit Q) (he : ∀ s n p, s < 5 → n < 3 → Q s n p = Q' s n p) : Q8 hit Q' :=
  ⟨h.1, fun s n hs hn => by
    obtain ⟨v, h1, h2, h3⟩ := h.2 s n hs hn
    exact ⟨v, h1, h2, fun p => by rw [h3, he s n p hs hn]⟩⟩
theorem Q8.zero : Q8 (List.replicate 15 0) fun _ _ _ => false := ⟨by simp, fun s n hs hn => ⟨0, by
  rw [List.getD_eq_getElem?_getD, List.getElem?_replicate, if_pos (by omega)]; rfl, by decide, fun p => by simp⟩⟩
theorem UA {Ak : List (List Int)} (h5 : Ak.length ≤ 5) {k4 : Nat} (hk : k4 < 3) {ps : List (Int × Int)} (hp : ps.length < 9) {x6 : Int} : ∀ (tl : List (List Int)) (j : Nat) (hit : List Int) (Q : Nat → Nat → Nat → Bool), Ak.drop j = tl → Q8 hit Q →
    ∃ aa, DV (k4 : Int) ps x6 tl (j : Int) hit = some aa ∧ Q8 aa fun s n p => Q s n p || (decide (j ≤ s) && decide (s < Ak.length) && decide (n = k4) && decide (p = ps.length) && decide (x6 ∈ Ak.getD s []))
  | [], j, hit, Q, hd, h => ⟨hit, rfl, h.congr fun s n p hs hn => by
      have hl : Ak.length ≤ j := by
        have := congrArg List.length hd
        rw [List.length_drop, List.length_nil] at this; omega
      by_cases c : j ≤ s
      · rw [decide_eq_false (show ¬ s < Ak.length by omega)]; simp
      · rw [decide_eq_false c]; simp⟩
  | x7 :: tl, j, hit, Q, hd, h => by
    obtain ⟨hj, hx, ab⟩ := drop_cons [] hd
    unfold DV
    rw [contains_eq, Ap]
    by_cases c : x6 ∈ x7
    · rw [if_pos (decide_eq_true c)]
      obtain ⟨v, e1, e2, e3⟩ := h.2 j k4 (by omega) hk
      have ei : (j : Int) * 3 + (k4 : Int) = ((j * 3 + k4 : Nat) : Int) := by omega
      have hl := h.1
      have ae : (2 : Nat) ^ ps.length ≤ 2 ^ 8 := Nat.pow_le_pow_right (by decide) (by omega)
      have ad : (2 : Nat) ^ 8 = 256 := by decide
      rw [Bz (by omega), Bz (by omega), ei, Xb 0 _ (by omega), Bz (Zb (by omega)), Bz (by omega), Bz (by omega), Lv, Int.toNat_natCast, e1, RY, R2 (by omega) (by omega)]
      have hH : Q8 (hit.set (j * 3 + k4) ((v ||| 2 ^ ps.length : Nat) : Int)) fun s n p => Q s n p || (decide (s = j) && decide (n = k4) && decide (p = ps.length)) := by
        refine ⟨by rw [List.length_set]; exact hl, fun s n hs hn => ?_⟩
        rw [Il (by omega)]
        by_cases d : j * 3 + k4 = s * 3 + n
        · obtain ⟨rfl, rfl⟩ : s = j ∧ n = k4 := by omega
          rw [if_pos rfl]
          refine ⟨_, rfl, ?_, fun p => ?_⟩
          · have : v ||| 2 ^ ps.length < 2 ^ 9 := Nat.or_lt_two_pow (by omega) (by omega)
            omega
          · rw [Nat.testBit_or, e3, Nat.testBit_two_pow]
            simp [eq_comm]
        · rw [if_neg d]
          obtain ⟨u, f1, f2, f3⟩ := h.2 s n hs hn
          refine ⟨u, f1, f2, fun p => ?_⟩
          rw [f3]
          by_cases c1 : s = j
          · have : n ≠ k4 := fun c2 => d (by rw [c1, c2])
            show Q s n p = (Q s n p || (decide (s = j) && decide (n = k4) && decide (p = ps.length)))
            rw [decide_eq_false this]; simp
          · show Q s n p = (Q s n p || (decide (s = j) && decide (n = k4) && decide (p = ps.length)))
            rw [decide_eq_false c1]; simp
      obtain ⟨aa, g1, g2⟩ := UA h5 hk hp tl (j + 1) _ _ ab hH
      refine ⟨aa, g1, g2.congr fun s n p hs hn => ?_⟩
      by_cases c1 : s = j
      · subst c1
        rw [hx, decide_eq_true c, decide_eq_true hj, decide_eq_false (show ¬ s + 1 ≤ s by omega)]
        simp
      · have e4 : decide (j ≤ s) = decide (j + 1 ≤ s) := decide_eq_decide.2 (by omega)
        rw [decide_eq_false c1, e4]; simp
    · rw [if_neg (by simpa using c)]
      obtain ⟨aa, g1, g2⟩ := UA h5 hk hp tl (j + 1) _ _ ab h
      refine ⟨aa, g1, g2.congr fun s n p hs hn => ?_⟩
      by_cases c1 : s = j
      · subst c1
        rw [hx, decide_eq_false c, decide_eq_false (show ¬ s + 1 ≤ s by omega)]
        simp
      · have e4 : decide (j ≤ s) = decide (j + 1 ≤ s) := decide_eq_decide.2 (by omega)
        rw [e4]
def QP (hs : List (List Int)) (ps : List (Int × Int)) (s n p : Nat) : Bool := decide (p < ps.length) && decide ((ps.getD p (0, 0)).1 = (n : Int)) && decide (s < hs.length) && decide ((ps.getD p (0, 0)).2 ∈ hs.getD s [])
theorem Yh {hs : List (List Int)} {ps : List (Int × Int)} {k4 : Nat} {x : Int} (s n p : Nat) : QP hs (ps ++ [((k4 : Int), x)]) s n p = (QP hs ps s n p || (decide (s < hs.length) && decide (n = k4) && decide (p = ps.length) && decide (x ∈ hs.getD s []))) := by
  unfold QP
  rw [VM, List.length_append, List.length_singleton]
  by_cases c : p < ps.length
  · rw [if_pos c, decide_eq_true c, decide_eq_true (show p < ps.length + 1 by omega), decide_eq_false (show ¬ p = ps.length by omega)]; simp
  · rw [if_neg c, decide_eq_false c]
    by_cases c2 : p = ps.length
    · subst c2
      have e : decide ((k4 : Int) = (n : Int)) = decide (n = k4) := decide_eq_decide.2 (by omega)
      rw [if_pos rfl, decide_eq_true (show ps.length < ps.length + 1 by omega), e]
      cases decide (s < hs.length) <;> cases decide (n = k4) <;> simp
    · rw [decide_eq_false (show ¬ p < ps.length + 1 by omega), decide_eq_false c2]; simp
theorem Xa {Ak : List (List Int)} (h5 : Ak.length ≤ 5) {k4 : Nat} (hk : k4 < 3) : ∀ (tl : List Int) (ps : List (Int × Int)) (hit : List Int), ps.length + tl.length ≤ 9 → Q8 hit (QP Ak ps) →
    ∃ aa, Ek Ak (k4 : Int) tl ps hit = some (ps ++ tl.map fun x => ((k4 : Int), x), aa) ∧ Q8 aa (QP Ak (ps ++ tl.map fun x => ((k4 : Int), x)))
  | [], ps, hit, _, h => ⟨hit, by unfold Ek; simp, by simpa using h⟩
  | x :: tl, ps, hit, hl, h => by
    rw [List.length_cons] at hl
    unfold Ek
    obtain ⟨ab, e1, h1⟩ := UA h5 hk (ps := ps) (x6 := x) (by omega) Ak 0 hit _ rfl h
    have ad : DV (k4 : Int) ps x Ak 0 hit = some ab := e1
    have h2 : Q8 ab (QP Ak (ps ++ [((k4 : Int), x)])) := h1.congr fun s n p hs hn => by
      rw [Yh, decide_eq_true (Nat.zero_le s), Bool.true_and]
    obtain ⟨aa, e2, h3⟩ := Xa h5 hk tl (ps ++ [((k4 : Int), x)]) ab (by simp; omega) h2
    rw [ad, Ap, Km (by simp; omega), B2, e2]
    simp only [List.append_assoc, List.singleton_append] at h3 ⊢
    exact ⟨aa, rfl, h3⟩
end Go.Proofs.YtfmapnhfamoecaaGreat.Rd
namespace Go.Proofs.YtfmapnhfamoecaaGreat.Rd
open Go.PL
structure Pv (ns : List (List Int × Int × Int)) (j : Nat) (ps : List (Int × Int)) : Prop where
  len : ps.length = total (ns.take j)
  nodup : ps.Nodup
  mem : ∀ q : Int × Int, q ∈ ps ↔ (0 ≤ q.1 ∧ q.1 < (j : Int)) ∧ q.2 ∈ (ns.getD q.1.toNat ([], 0, 0)).1
theorem VY (a b : List (List Int × Int × Int)) : total (a ++ b) = total a + total b := by unfold total; simp
theorem P0 (ns : List (List Int × Int × Int)) (j : Nat) : total (ns.take j) ≤ total ns := by
  have := VY (ns.take j) (ns.drop j)
  rw [List.take_append_drop] at this; omega
section
variable {ws hs : List (List Int)} {H st : Int} {ns : List (List Int × Int × Int)}
theorem Ss (h : GO ws hs H st ns) : ∀ (tl : List (List Int × Int × Int)) (j : Nat) (ps : List (Int × Int)) (hit : List Int), ns.drop j = tl → Pv ns j ps → j ≤ ns.length → Q8 hit (QP hs ps) →
    ∃ ab aa, DX hs tl (j : Int) ps hit = some (ab, aa) ∧ Pv ns ns.length ab ∧ Q8 aa (QP hs ab)
  | [], j, ps, hit, hd, hp, hj, hh => by
    have : ns.length = j := by
      have := congrArg List.length hd
      rw [List.length_drop, List.length_nil] at this; omega
    exact ⟨ps, hit, rfl, by rw [this]; exact hp, hh⟩
  | x :: tl, j, ps, hit, hd, hp, _, hh => by
    obtain ⟨hj, hx, ad⟩ := drop_cons ([], 0, 0) hd
    have hn := h.hn
    have ae := h.bN
    have af := h.note x (by rw [← hx]; exact Gm hj)
    have e0 : ns.take (j + 1) = ns.take j ++ [x] := by rw [List.take_add_one, I6 (d := ([], 0, 0)) hj, hx]; rfl
    have e1 : total (ns.take (j + 1)) = total (ns.take j) + x.1.length := by rw [e0, Uw]
    have e2 := P0 ns (j + 1)
    have ah := hp.len
    obtain ⟨R, r1, r2, _⟩ := P3 (s := x.1) (by omega)
    rw [values_eq, Ap] at r1
    have ai : R.length = x.1.length := r2.length_eq
    obtain ⟨aa, g1, g2⟩ := Xa h.Mw.2 (k4 := j) (by omega) R ps hit (by omega) hh
    unfold DX
    rw [values_eq, Ap, r1, Ap, g1, B2]
    refine Ss h tl (j + 1) _ aa ad ⟨?_, ?_, fun q => ?_⟩ hj g2
    · rw [List.length_append, List.length_map, ai, e1, ah]
    · rw [List.nodup_append]
      refine ⟨hp.nodup, ?_, fun a ha b hb he => ?_⟩
      · refine List.Pairwise.map _ (fun a b aj he => aj (Prod.mk.inj he).2) (r2.symm.nodup af.1.2.1)
      · obtain ⟨y, _, rfl⟩ := List.mem_map.1 hb
        have := ((hp.mem a).1 ha).1
        rw [he] at this
        exact absurd this.2 (by show ¬ (j : Int) < (j : Int); omega)
    · rw [List.mem_append, hp.mem, List.mem_map]
      constructor
      · rintro (⟨h1, h2⟩ | ⟨y, h1, rfl⟩)
        · exact ⟨⟨h1.1, by omega⟩, h2⟩
        · refine ⟨⟨by show 0 ≤ (j : Int); omega, by show (j : Int) < ((j + 1 : Nat) : Int); omega⟩, ?_⟩
          show y ∈ (ns.getD (j : Int).toNat ([], 0, 0)).1
          rw [Int.toNat_natCast, hx]; exact r2.subset h1
      · rintro ⟨h1, h2⟩
        by_cases c : q.1 < (j : Int)
        · exact .inl ⟨⟨h1.1, c⟩, h2⟩
        · have e : q.1 = (j : Int) := by omega
          rw [e, Int.toNat_natCast, hx] at h2
          exact .inr ⟨q.2, r2.symm.subset h2, by rw [← e]⟩
structure K7 (hs : List (List Int)) (ns : List (List Int × Int × Int)) (c : List Int) (ps : List (Int × Int)) (hit : List Int) : Prop where
  fin : V8 hs.length c
  ZU : Pv ns ns.length ps
  hit : Q8 hit (QP hs ps)
theorem K0 (h : GO ws hs H st ns) : ∃ c ps hit, DZ ws hs H st ns = some (some (ws, hs, H, st, ns, c, ps, hit), 0) ∧ K7 hs ns c ps hit := by
  obtain ⟨c0, a, c, e1, e2, e3, hc⟩ := Wq h
  have h0 : Pv ns 0 [] := ⟨rfl, List.nodup_nil, fun q => ⟨fun hq => (nomatch hq), fun hq => absurd hq.1 (by omega)⟩⟩
  have hz : Q8 (List.replicate 15 0) (QP hs []) := Q8.zero.congr fun s n p _ _ => by unfold QP; simp
  obtain ⟨ps, hit, e4, hp, hh⟩ := Ss h ns 0 [] (List.replicate 15 0) rfl h0 (Nat.zero_le _) hz
  have aa : DX hs ns 0 [] (List.replicate 15 0) = some (ps, hit) := e4
  refine ⟨c, ps, hit, ?_, hc, hp, hh⟩
  unfold DZ
  rw [SV h, Ap, if_neg (by decide), Bz ⟨AJ (by omega), AJ (by omega)⟩, e1, Ap, e2, Ap, e3, Ap, aa, B2]
end
end Go.Proofs.YtfmapnhfamoecaaGreat.Rd
