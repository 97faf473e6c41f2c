/- Layer 1: the tables of loudness that the printed functions compute. -/
import Derived.Test.YtodhcoakjlmcdaaGreatZBHA
namespace Go.Proofs.YtodhcoakjlmcdaaGreat
open Go.PL Go.Hear
theorem from_l1_eq : ∀ (m : Nat) (k n : Nat), k + m = n → hear_desk_from_l1 m (k : Int) (fillN n k) = some (fillN n n)
  | 0, k, n, h => by
    have : k = n := by omega
    subst this; rfl
  | m + 1, k, n, h => by
    unfold hear_desk_from_l1
    have hl : (fillN n k).length = n := by simp [fillN]; omega
    rw [ix_get _ (by omega) (by rw [hl]; omega)]
    unfold bv
    rw [show (k : Int).toNat = k from rfl, fillN_set (by omega)]
    exact from_l1_eq m (k + 1) n (by omega)
section
variable {n : Nat} {E : Int → List (Int × Int)} {s : Int}
theorem from_l3_eq (hn : n ≤ 30) (hE : EOK n E) {p : Int} (hp : 0 ≤ p ∧ p < n) {out0 rest : List Int} (hb : mu n out0 + rest.length ≤ 10000) (rec2 : List Int → List Int → Option (List Int)) : ∀ (suf pre : List (Int × Int)) (out line : List Int), E p = pre ++ suf → Rnd n E s p out0 rest pre out line →
    hear_desk_from_l3 p rec2 suf out line = rec2 (suf.foldl (relax p) (out, line)).1 (suf.foldl (relax p) (out, line)).2
  | [], pre, out, line, _, _ => rfl
  | x :: suf, pre, out, line, hs, h => by
    have hx := hE p x.1 x.2 (by rw [hs]; simp)
    have hl := h.wk.len
    have r1 := h.rngs hp
    have r2 := h.wk.rng' hx.1.1 hx.1.2
    have hbd := h.bd
    have hcond : (b1 (ix out x.1 fun x5 =>
        if x5 = (-1) then
        (some true)
        else
        (ix out p fun x6 =>
        gd (R64 (x6 + x.2)) <|
        some (decide ((x6 + x.2) < x5)))) fun k2 =>
        if k2 = true then
        (ix out p fun x7 =>
        gd (R64 (x7 + x.2)) <|
        ix out x.1 fun x8 =>
        bv (out.set (x.1 : Int).toNat (x7 + x.2)) fun l2 =>
        ap line [x.1] fun line4 =>
        hear_desk_from_l3 p rec2 suf l2 line4)
        else
        (hear_desk_from_l3 p rec2 suf out line)) = hear_desk_from_l3 p rec2 suf (relax p (out, line) x).1 (relax p (out, line) x).2 := by
      rw [ix_get _ hx.1.1 (by rw [hl]; exact hx.1.2), ix_get _ hp.1 (by rw [hl]; exact hp.2), ix_get _ hp.1 (by rw [hl]; exact hp.2), ix_get _ hx.1.1 (by rw [hl]; exact hx.1.2)]
      rw [gd_t (r64_small (by omega)), gd_t (r64_small (by omega))]
      simp only [bv]
      rw [ap_t (xs := line) (ys := [x.1]) (by simp; omega)]
      unfold relax at'
      by_cases c1 : out.getD x.1.toNat 0 = -1
      · rw [if_pos c1, b1_some, if_pos rfl, if_pos (.inl c1)]
      · rw [if_neg c1, b1_some]
        by_cases c2 : out.getD p.toNat 0 + x.2 < out.getD x.1.toNat 0
        · rw [if_pos (decide_eq_true c2), if_pos (.inr c2)]
        · rw [if_neg (fun h => c2 (of_decide_eq_true h)), if_neg (fun h => h.elim c1 c2)]
    unfold hear_desk_from_l3
    rw [hcond, List.foldl_cons]
    exact from_l3_eq hn hE hp hb rec2 suf (pre ++ [x]) _ _ (by simpa using hs) (h.next hE hp hs)
theorem from_l2_eq {wide : Int} {ps : List Int} {w : Int} (ho : openE wide ps w = 0) {s : Int} : ∀ (fu : Nat) (out line : List Int), Wk ps.length (nextL wide ps w) s out → Ln ps.length out line → Done ps.length (nextL wide ps w) out line → mu ps.length out + line.length < fu → mu ps.length out + line.length ≤ 10000 →
    ∃ t, hear_desk_from_l2 wide ps (windD w) (windR w) (windB w) fu out line = some t ∧ Tab ps.length (nextL wide ps w) s t
  | 0, _, _, _, _, _, h, _ => by omega
  | fu + 1, out, line, hW, hL, hD, h, hm => by
    have hE := nextL_ok ho
    have hn := (openE_ok ho).2.1
    unfold hear_desk_from_l2
    cases line with
    | nil => exact ⟨out, by simp, Tab.of hW hD⟩
    | cons p rest =>
      have hp := (hL.rng p (List.mem_cons_self ..)).1
      simp only [List.length_cons] at h hm
      rw [if_pos (by simp only [List.length_cons]; omega), ix_t (Int.le_refl 0) (show (p :: rest)[(0 : Int).toNat]? = some p from rfl), gd_t (by simp only [List.length_cons]; omega)]
      unfold bv
      have hsl : sl (p :: rest) 1 ((p :: rest).length : Int) = rest := by simp [sl]
      rw [hsl]; simp only [next_eq ho hp.1 (show p < (ps.length : Int) by simpa using hp.2), b1_some]
      obtain ⟨h1, h2, h3, h4⟩ := (Rnd.all hE hp hW hL hD).last
      rw [from_l3_eq hn.2 hE hp (out0 := out) (rest := rest) (by omega) _ _ [] out rest (by simp) (Rnd.first hW hL hD)]
      simp only [List.length_cons] at h4
      exact from_l2_eq ho fu _ _ h1 h2 h3 (by omega) (by omega)
end
/-- The table of a stand. -/
def tb (wide : Int) (ps : List Int) (w stand : Int) : List Int := table ps.length (nextL wide ps w) stand
theorem tb_ok {wide : Int} {ps : List Int} {w : Int} (ho : openE wide ps w = 0) {stand : Int} (hs : 0 ≤ stand ∧ stand < ps.length) : Tab ps.length (nextL wide ps w) stand (tb wide ps w stand) := table_ok (nextL_ok ho) hs
theorem from_eq {wide : Int} {ps : List Int} {w : Int} (ho : openE wide ps w = 0) {stand : Int} (hs : 0 ≤ stand ∧ stand < ps.length) : hear_desk_from wide ps (windD w) (windR w) (windB w) stand = some (tb wide ps w stand) := by
  have hn := (openE_ok ho).2.1
  unfold hear_desk_from
  rw [gd_t (by omega)]
  simp only [bv, Int.toNat_natCast]
  have h0 : hear_desk_from_l1 ps.length 0 (List.replicate ps.length 0) = some (fillN ps.length ps.length) := by
    have := from_l1_eq ps.length 0 ps.length (by omega)
    rw [fillN_zero] at this; exact this
  rw [gd_t ⟨r64_small (by omega), r64_small (by simp; omega)⟩, List.length_replicate, show (((ps.length : Int) - 0).toNat) = ps.length by omega]
  rw [h0, b1_some]
  rw [ix_get _ hs.1 (by simp [fillN]; omega), fillN_full]
  obtain ⟨h1, h2, h3⟩ := start_ok (E := nextL wide ps w) hs
  have h4 := start_mu hn.2 hs
  obtain ⟨t, ht, hT⟩ := from_l2_eq ho FU _ _ h1 h2 h3 (by simp only [List.length_singleton]; unfold FU; omega) (by simp only [List.length_singleton]; omega)
  rw [ht, b1_some, hT.unique (nextL_ok ho) hs (tb_ok ho hs)]
theorem standE_ok {wide : Int} {ps : List Int} {w stand : Int} (h : standE wide ps w stand = 0) : openE wide ps w = 0 ∧ (0 ≤ stand ∧ stand < ps.length) ∧ ps.getD stand.toNat 0 = 0 := by
  unfold standE at h
  by_cases ho : openE wide ps w = 0
  · rw [if_neg (not_not_intro ho)] at h
    unfold isE at h
    split at h
    · cases h
    · rename_i h1
      split at h
      · cases h
      · rename_i h2
        have h1' := Classical.not_not.1 h1
        exact ⟨ho, ⟨h1'.1, by omega⟩, Classical.not_not.1 h2⟩
  · rw [if_pos ho] at h; exact absurd h ho
theorem Needs_eq {wide : Int} {ps : List Int} (hn : ps.length ≤ 1000) (w stand : Int) : hear_Needs wide ps w stand = some (if standE wide ps w stand = 0 then tb wide ps w stand else [], standE wide ps w stand) := by
  unfold hear_Needs
  rw [standing_eq hn, b2_some]
  by_cases h : standE wide ps w stand = 0
  · obtain ⟨ho, hs, _⟩ := standE_ok h
    rw [if_neg (not_not_intro h), if_pos h, if_pos h]
    unfold dsk
    rw [b5_some, from_eq ho hs, b1_some, h]
  · rw [if_pos h, if_neg h]
/-- The error of Need. -/
def needE (wide : Int) (ps : List Int) (w stand plot : Int) : Int :=
  if standE wide ps w stand ≠ 0 then standE wide ps w stand else if ¬ (0 ≤ plot ∧ plot ≤ (ps.length : Int) - 1) then 1 else if (tb wide ps w stand).getD plot.toNat 0 = -1 then 6 else 0
def needV (wide : Int) (ps : List Int) (w stand plot : Int) : Int := if needE wide ps w stand plot = 0 then (tb wide ps w stand).getD plot.toNat 0 else 0
theorem Need_eq {wide : Int} {ps : List Int} (hn : ps.length ≤ 1000) (w stand plot : Int) : hear_Need wide ps w stand plot = some (needV wide ps w stand plot, needE wide ps w stand plot) := by
  unfold hear_Need needV needE
  rw [Needs_eq hn, b2_some]
  by_cases h : standE wide ps w stand = 0
  · obtain ⟨ho, hs, _⟩ := standE_ok h
    rw [if_neg (not_not_intro h), if_pos h, plot_eq hn, b1_some]
    by_cases hp : 0 ≤ plot ∧ plot ≤ (ps.length : Int) - 1
    · have hl := (tb_ok ho hs).len
      rw [if_neg (ndf hp), ix_get _ hp.1 (by rw [hl]; omega)]
      by_cases h1 : (tb wide ps w stand).getD plot.toNat 0 = -1 <;> simp only [h, hp, h1, not_not_intro, if_true, if_false, and_self] <;> rfl
    · rw [if_pos (nd hp)]
      simp only [h, hp, if_true, if_false, ne_eq, not_true_eq_false, not_false_eq_true]
      rfl
  · rw [if_pos h]
    simp only [h, if_true, if_false, ne_eq, not_false_eq_true]
end Go.Proofs.YtodhcoakjlmcdaaGreat
