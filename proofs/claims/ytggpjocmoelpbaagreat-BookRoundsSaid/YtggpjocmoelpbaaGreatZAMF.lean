/- BookRounds; in plain Lean. -/
import Derived.Test.YtggpjocmoelpbaaGreatZAME
import Derived.Test.YtggpjocmoelpbaaGreatZAMD
namespace Go.Proofs.YtggpjocmoelpbaaGreat.Br
open Go.PL
theorem awake7 : oyezlaw07_awake = some true := by decide +kernel
theorem rep_st (fu : Nat) (A : List (List Int)) (n m : Nat) (hA : A.length = 8) (hn : n < 8) (hm : m = Nat.min n (8 - n)) : slices_Repeat_int_int__l1 (fu + 1) A (n : Int) = slices_Repeat_int_int__l1 fu (A.take n ++ (A.take m ++ A.drop (n + m))) ((n + m : Nat) : Int) := by
  have hm8 : m ≤ 8 := by rw [hm]; exact Nat.le_trans (Nat.min_le_right ..) (by omega)
  subst hm
  rw [slices_Repeat_int_int__l1, if_pos (by omega), gd_t (by omega), gd_t (by omega), gd_t (by omega), Int.toNat_natCast, hA, Rd.bvE, gd_t (Rd.r64_small (by omega)), Rd.bvE]
  rfl
theorem rep_go (fu : Nat) (x : List Int) : slices_Repeat_int_int__l1 (fu + 1 + 1 + 1 + 1) [x, [], [], [], [], [], [], []] ((1 : Nat) : Int) = some (List.replicate 8 x) := by
  rw [rep_st _ _ 1 1 rfl (by decide) rfl]
  show slices_Repeat_int_int__l1 (fu + 1 + 1 + 1) [x, x, [], [], [], [], [], []] ((2 : Nat) : Int) = _
  rw [rep_st _ _ 2 2 rfl (by decide) rfl]
  show slices_Repeat_int_int__l1 (fu + 1 + 1) [x, x, x, x, [], [], [], []] ((4 : Nat) : Int) = _
  rw [rep_st _ _ 4 4 rfl (by decide) rfl]
  show slices_Repeat_int_int__l1 (fu + 1) [x, x, x, x, x, x, x, x] ((8 : Nat) : Int) = _
  rw [slices_Repeat_int_int__l1, if_neg (by simp)]
  rfl
theorem mul8 : math_bits_Mul (1 % 18446744073709551616) (8 % 18446744073709551616) = some (0, 8) := by decide +kernel
theorem rep8 (x : List Int) : slices_Repeat_int_int_ [x] 8 = some (List.replicate 8 x) := by
  have e0 : math_bits_Mul ((([x] : List (List Int)).length : Int) % 18446744073709551616) (8 % 18446744073709551616) = some (0, 8) := mul8
  have e1 : slices_Repeat_int_int__l1 FU [x, [], [], [], [], [], [], []] ((1 : Nat) : Int) = some (List.replicate 8 x) := rep_go 18446744073709551612 x
  have hc : cpy (List.replicate (8 : Int).toNat ([] : List Int)) [x] = [x, [], [], [], [], [], [], []] := rfl
  have hn : Nat.min [x].length (List.replicate (8 : Int).toNat ([] : List Int)).length = 1 := rfl
  unfold slices_Repeat_int_int_
  rw [gd_t (by decide), e0, b2_some, if_neg (by decide), decide_eq_false (by decide), b1_some, gd_t rfl, gd_t (by unfold R64; omega), gd_t (by omega), Rd.bvE, hc, Rd.bvE, hn, Rd.bvE, e1, b1_some]
def hearsB (hs : List (List Int)) : List (List (List Int)) := hs.map (List.replicate 8)
def crs (l : List (Int × Int)) (es : List Int) : List (Int × Int × Int) := (l.zip es).map fun z => (Int.tdiv (z.2 * 7) 200, z.1.1, z.1.2)
theorem l1 : ∀ (tl : List (List Int)) (out : List (List (List Int))), out.length + tl.length ≤ 100 → oyezlaw07_BookRounds_l1 tl out = some (out ++ hearsB tl)
  | [], out, _ => by simp [oyezlaw07_BookRounds_l1, hearsB]
  | x :: tl, out, h => by
    simp only [List.length_cons] at h
    unfold oyezlaw07_BookRounds_l1
    rw [rep8, b1_some, ap_t (by simp; omega), l1 tl _ (by simp; omega), List.append_assoc]
    rfl
theorem l2 {metal : List Int} (hm : (metal.length : Int) ≤ 9223372036854775807) : ∀ (fu : Nat) (a t : Int) (rs : List Int), Rd.BellA metal a → rs.length + fu ≤ 100 → (∀ r ∈ rs, r = 2 ∨ r = 3) → ∃ rs', oyezlaw07_BookRounds_l2 metal fu a t rs = some rs' ∧ rs'.length = rs.length + fu ∧ ∀ r ∈ rs', r = 2 ∨ r = 3
  | 0, a, t, rs, _, _, h => ⟨rs, rfl, rfl, h⟩
  | fu + 1, a, t, rs, ha, hl, h => by
    obtain ⟨n, a1, t1, e1, h1, h2, h3⟩ := Rd.strike_ok (t := t) (lo := 2) (hi := 3) ha hm (by omega) (by omega)
    unfold oyezlaw07_BookRounds_l2
    rw [e1, b3_some, ap_t (by simp; omega)]
    obtain ⟨rs', g1, g2, g3⟩ := l2 hm fu a1 t1 (rs ++ [n]) h3 (by simp; omega) (fun r hr => by
      rcases List.mem_append.1 hr with hr | hr
      · exact h r hr
      · rw [List.mem_singleton.1 hr]; omega)
    rw [List.length_append, List.length_singleton] at g2
    exact ⟨rs', g1, by omega, g3⟩
theorem hour_ok {e : Int} (h : 0 ≤ e ∧ e ≤ 200) : 0 ≤ Int.tdiv (e * 7) 200 ∧ Int.tdiv (e * 7) 200 < 8 := by
  rw [Int.tdiv_eq_ediv_of_nonneg (by omega)]; omega
theorem l4 {hs : List (List Int)} {H : Int} {ns : List (List Int × Int × Int)} {L : List (List Int)} {bh : List (List (List Int))} {rs : List Int} {l : List (Int × Int)} {es : List Int} (hes : ∀ e ∈ es, 0 ≤ e ∧ e ≤ 200) (hlen : es.length = l.length) (hl : Rd.CryOK hs.length ns.length l) : ∀ (tl : List (Int × Int)) (k : Nat) (acc : List (Int × Int × Int)), l.drop k = tl → acc.length + tl.length ≤ 100 →
    oyezlaw07_BookRounds_l4 hs H ns es L bh rs tl (k : Int) acc = oyezlaw07_BookRounds_j3 H ns L bh rs (acc ++ crs tl (es.drop k))
  | [], k, acc, _, _ => by simp [oyezlaw07_BookRounds_l4, crs]
  | x :: tl, k, acc, hd, ha => by
    obtain ⟨hk, hx, hd2⟩ := Rd.drop_cons (0, 0) hd
    simp only [List.length_cons] at ha
    have hke : k < es.length := by omega
    obtain ⟨a1, a2⟩ := hl x (by rw [← hx]; exact Rd.getD_mem hk)
    have he := hes _ (Rd.getD_mem (d := 0) hke)
    have hh := hour_ok he
    have ed : es.drop k = es.getD k 0 :: es.drop (k + 1) := by
      rw [List.drop_eq_getElem_cons hke]; congr 1
      rw [List.getD_eq_getElem?_getD, List.getElem?_eq_getElem hke]; rfl
    unfold oyezlaw07_BookRounds_l4
    rw [Rd.ixI _ hke, if_neg (by omega), if_neg (by omega), if_neg (by omega), if_neg (by omega), if_neg (by omega), decide_eq_false (by omega), b1_some, if_neg (by decide), Rd.ixI _ hke, gd_t (Rd.r64_small (by omega)), gd_t ⟨by decide, Rd.r64_small (by omega)⟩, ap_t (by simp; omega)]
    have ih := l4 (hs := hs) (H := H) (L := L) (bh := bh) (rs := rs) hes hlen hl tl (k + 1) (acc ++ [(Int.tdiv (es.getD k 0 * 7) 200, x.1, x.2)]) hd2 (by simp; omega)
    refine ih.trans ?_
    rw [ed]
    unfold crs
    rw [List.zip_cons_cons, List.map_cons, List.append_assoc]
    rfl
theorem fit2 : ∀ (rs : List Int) (p : Option Int), (p = none ∨ p = some 2) → (∀ r ∈ rs, r = 2 ∨ r = 3) → Bk.FitF p rs (List.replicate rs.length 2)
  | [], p, _, _ => by cases p <;> trivial
  | r :: rs, p, hp, hr => by
    refine ⟨by decide, ?_, fun v hv => ?_, fit2 rs (some 2) (.inr rfl) fun x hx => hr x (by simp [hx])⟩
    · rcases hr r (by simp) with rfl | rfl <;> decide
    · rcases hp with rfl | rfl
      · cases hv
      · obtain rfl := Option.some.inj hv
        decide
theorem getD_rep {w : Nat} {x : List Int} (hw : w < 8) : (List.replicate 8 x).getD w [] = x := by
  rw [List.getD_eq_getElem?_getD, List.getElem?_replicate, if_pos hw]; rfl
theorem hearsB_get {hs : List (List Int)} {s : Nat} (h : s < hs.length) : (hearsB hs).getD s [] = List.replicate 8 (hs.getD s []) := by
  unfold hearsB
  simp only [List.getD_eq_getElem?_getD, List.getElem?_map, List.getElem?_eq_getElem h]
  rfl
section
variable {ws hs : List (List Int)} {H st : Int} {ns : List (List Int × Int × Int)} {c : List Int} {ps : List (Int × Int)} {hit : List Int} {l : List (Int × Int)} {es rs : List Int}
theorem heard_iff (hl : Rd.CryOK hs.length ns.length l) (hes : ∀ e ∈ es, 0 ≤ e ∧ e ≤ 200) (h8 : rs.length = 8) {w : List Int} (hw : Bk.FitF none rs w) {x q : Nat} : Bk.heardB (hearsB hs) (crs l es) w (x : Int) (q : Int) = true ↔ ∃ e, Rd.HrE hs l es q x e := by
  unfold Bk.heardB crs
  rw [List.any_map, List.any_eq_true]
  have key : ∀ z ∈ l.zip es, Bk.cell (hearsB hs) z.1.1 (w.getD (Int.tdiv (z.2 * 7) 200).toNat 0) = hs.getD z.1.1.toNat [] := fun z hz => by
    obtain ⟨a1, _⟩ := hl z.1 (List.of_mem_zip hz).1
    have hh := hour_ok (hes _ (List.of_mem_zip hz).2)
    have hwl := hw.len
    have hwr := hw.rng _ (Rd.getD_mem (d := 0) (i := (Int.tdiv (z.2 * 7) 200).toNat) (by omega))
    unfold Bk.cell
    rw [hearsB_get (by omega), getD_rep (by omega)]
  constructor
  · rintro ⟨z, hz, h⟩
    simp only [Function.comp, Bool.and_eq_true_iff, decide_eq_true_iff] at h
    rw [key z hz] at h
    exact ⟨z.2, z, hz, h.1, h.2, rfl⟩
  · rintro ⟨e, z, hz, h1, h2, _⟩
    refine ⟨z, hz, ?_⟩
    simp only [Function.comp, Bool.and_eq_true_iff, decide_eq_true_iff]
    rw [key z hz]
    exact ⟨h1, h2⟩
theorem bok (h : Rd.BtOK ws hs H st ns) (h4 : hs.length ≤ 4) (hn : 1 ≤ ns.length) (hl : Rd.CryOK hs.length ns.length l) (h9 : l.length ≤ 9) (hes : ∀ e ∈ es, 0 ≤ e ∧ e ≤ 200) (h8 : rs.length = 8) (hr : ∀ r ∈ rs, r = 2 ∨ r = 3) : Bk.BOK H (ns.length : Int) (hearsB hs) rs (crs l es) := by
  have h1 := h.hs1
  have h2 := h.hH
  have h3 := h.hn
  have hbl : (hearsB hs).length = hs.length := List.length_map ..
  refine ⟨by omega, by omega, by omega, by omega, ?_, fun w hw => ?_, fun w hw => ?_, fun r hr' => ?_, fun x hx => ?_⟩
  · have : (crs l es).length ≤ l.length := by unfold crs; rw [List.length_map, List.length_zip]; omega
    omega
  · obtain ⟨y, _, rfl⟩ := List.mem_map.1 hw; simp
  · obtain ⟨y, hy, rfl⟩ := List.mem_map.1 hw
    intro z hz
    rw [List.eq_of_mem_replicate hz]
    exact h.hear y hy
  · have := hr r hr'; omega
  · obtain ⟨z, hz, rfl⟩ := List.mem_map.1 hx
    obtain ⟨a1, a2⟩ := hl z.1 (List.of_mem_zip hz).1
    have hh := hour_ok (hes _ (List.of_mem_zip hz).2)
    refine ⟨⟨hh.1, ?_⟩, ⟨a1.1, ?_⟩, a2⟩
    · show Int.tdiv (z.2 * 7) 200 < (rs.length : Int); omega
    · show z.1.1 < ((hearsB hs).length : Int); omega
theorem refuted {n n2 : Int} {bh : List (List (List Int))} {cs : List (Int × Int × Int)} (h : Bk.BOK n n2 bh rs cs) (hex : ∃ c, Bk.FitF none rs c) {x q : Int} (hx : 0 ≤ x ∧ x < n) (hq : 0 ≤ q ∧ q < n2) : ∃ is, book_Refuted n n2 bh rs cs x q false = some (is, 0) ∧ ((∀ c, Bk.FitF none rs c → Bk.heardB bh cs c x q = true) → is = true) := by
  rcases Bk.Witness_eq h hex hx hq false with ⟨c, hc, h1, _, h3⟩ | ⟨h1, _, h3⟩
  · exact ⟨false, h3, fun hall => by rw [hall c hc] at h1; cases h1⟩
  · exact ⟨true, h3, fun _ => rfl⟩
theorem ends200 {bd : Nat → Int} {S : Nat} {start : Int} {v0 : Nat} (hbd : ∀ n, n < ns.length → bd n ≤ 200) {s : Int} {v : Nat} {t : Int} (h : Rd.Pth c ns hit bd S start v0 l s v t) : ∀ es, Rd.endsF c ns start 0 l = some es → ∀ e ∈ es, e ≤ 200 := by
  induction h with
  | nil => intro es he e hm; obtain rfl : [] = es := Option.some.inj he; cases hm
  | @snoc l k v s n t h hk hs hn hne hv ih =>
    intro es he e hm
    obtain ⟨es0, e1, e2, e3, e4, e5⟩ := h.ends
    have q := Rd.ends_snoc (x := ((s : Int), (n : Int))) l start 0 es0 e1
    rw [e3, e2, Int.toNat_natCast, Int.toNat_natCast, Int.toNat_natCast, if_neg hv.1] at q
    rw [q] at he
    obtain rfl := Option.some.inj he
    rcases List.mem_append.1 hm with hm | hm
    · exact ih es0 e1 e hm
    · rw [List.mem_singleton.1 hm]
      have := hv.2
      have := hbd n hn
      omega
variable {L T : List (List Int)}
theorem l8 (hB : Bk.BOK H (ns.length : Int) (hearsB hs) rs (crs l es)) (hex : ∃ c, Bk.FitF none rs c) (hl : Rd.CryOK hs.length ns.length l) (hes : ∀ e ∈ es, 0 ≤ e ∧ e ≤ 200) (h8 : rs.length = 8) (hL : Rd.Tab ns.length H.toNat (Rd.HrE hs l es) L) (hT : Bk.VTab H (ns.length : Int) (hearsB hs) rs (crs l es) T) (hall : ∀ n h : Nat, n < ns.length → (h : Int) ∈ (ns.getD n ([], 0, 0)).1 → ∃ e, Rd.HrE hs l es n h e) {h : Nat} (hh : (h : Int) < H) {rec6 : Int → Option Bool} : ∀ (tl : List Int) (k : Nat), (T.getD h []).drop k = tl → ((T.getD h []).length : Int) = (ns.length : Int) → oyezlaw07_BookRounds_l8 H ns L (hearsB hs) rs (crs l es) (h : Int) rec6 tl (k : Int) = rec6 ((h : Int) + 1)
  | [], _, _, _ => rfl
  | x :: tl, k, hd, hlen => by
    obtain ⟨hk, hx, hd2⟩ := Rd.drop_cons 0 hd
    have hkn : k < ns.length := by omega
    have hLl := hL.len
    have hrow := hL.row k hkn
    have hval := hL.val k h hkn (by omega)
    have hv := hT.get (h : Int) (k : Int) ⟨by omega, hh⟩ ⟨by omega, by omega⟩
    rw [Int.toNat_natCast, Int.toNat_natCast, hx] at hv
    have hiff : ∀ w, Bk.FitF none rs w → (Bk.heardB (hearsB hs) (crs l es) w (h : Int) (k : Int) = true ↔ ∃ e, Rd.HrE hs l es k h e) := fun w hw => heard_iff hl hes h8 hw
    have hwant : (if (L.getD k []).getD h 0 ≠ -1 then some (1 : Int) else some 2) = some x := by
      obtain ⟨w, hw⟩ := hex
      rcases hval with ⟨v1, v2⟩ | ⟨v1, v2, _⟩
      · rw [if_neg (not_not_intro v1)]
        have hf : Bk.heardB (hearsB hs) (crs l es) w (h : Int) (k : Int) = false := by
          cases hb : Bk.heardB (hearsB hs) (crs l es) w (h : Int) (k : Int) with
          | false => rfl
          | true =>
            obtain ⟨e, he⟩ := (hiff w hw).1 hb
            exact absurd he (v2 e)
        rcases hv with ⟨_, a⟩ | ⟨a, _⟩ | ⟨_, ⟨w2, hw2, a⟩, _⟩
        · rw [a w hw] at hf; cases hf
        · rw [a]
        · obtain ⟨e, he⟩ := (hiff w2 hw2).1 a
          exact absurd he (v2 e)
      · rw [if_pos (by omega)]
        have hall' : ∀ w, Bk.FitF none rs w → Bk.heardB (hearsB hs) (crs l es) w (h : Int) (k : Int) = true := fun w hw => (hiff w hw).2 ⟨_, v1⟩
        rcases hv with ⟨a, _⟩ | ⟨_, a⟩ | ⟨_, _, w2, hw2, a⟩
        · rw [a]
        · have := a w hw
          rw [hall' w hw] at this; cases this
        · rw [hall' w2 hw2] at a; cases a
    obtain ⟨is, er, hr⟩ := refuted hB hex (x := (h : Int)) (q := (k : Int)) ⟨by omega, hh⟩ ⟨by omega, by omega⟩
    have key : (if decide ((h : Int) ∈ (ns.getD k ([], 0, 0)).1) = true then some (!is) else some false) = some false := by
      by_cases m : (h : Int) ∈ (ns.getD k ([], 0, 0)).1
      · rw [if_pos (decide_eq_true m), hr fun w hw => (hiff w hw).2 (hall k h hkn m)]; rfl
      · rw [if_neg (by simpa using m)]
    unfold oyezlaw07_BookRounds_l8
    rw [Rd.ixN [] _ (by omega), if_neg (by omega), Rd.ixI _ (by omega), hwant, b1_some, if_neg (not_not_intro rfl), er, b2_some, if_neg (by decide), Rd.ixN ([], 0, 0) _ hkn, Rd.contains_eq, b1_some, key, b1_some, if_neg (by decide)]
    exact l8 hB hex hl hes h8 hL hT hall hh tl (k + 1) hd2 hlen
theorem l6 (hB : Bk.BOK H (ns.length : Int) (hearsB hs) rs (crs l es)) (hex : ∃ c, Bk.FitF none rs c) (hl : Rd.CryOK hs.length ns.length l) (hes : ∀ e ∈ es, 0 ≤ e ∧ e ≤ 200) (h8 : rs.length = 8) (hL : Rd.Tab ns.length H.toNat (Rd.HrE hs l es) L) (hT : Bk.VTab H (ns.length : Int) (hearsB hs) rs (crs l es) T) (hall : ∀ n h : Nat, n < ns.length → (h : Int) ∈ (ns.getD n ([], 0, 0)).1 → ∃ e, Rd.HrE hs l es n h e) : ∀ (tl : List (List Int)) (k : Nat), T.drop k = tl → oyezlaw07_BookRounds_l6 H ns L (hearsB hs) rs (crs l es) tl (k : Int) = some true
  | [], _, _ => by
    unfold oyezlaw07_BookRounds_l6 oyezlaw07_BookRounds_j5
    rw [awake7, b1_some]
  | x :: tl, k, hd => by
    obtain ⟨hk, hx, hd2⟩ := Rd.drop_cons [] hd
    have hTl := hT.len
    have hrow := hT.row x (by rw [← hx]; exact Rd.getD_mem hk)
    unfold oyezlaw07_BookRounds_l6
    rw [if_neg (not_not_intro hrow)]
    have e := l8 hB hex hl hes h8 hL hT hall (h := k) (by omega) (rec6 := oyezlaw07_BookRounds_l6 H ns L (hearsB hs) rs (crs l es) tl) x 0 (by rw [hx]; rfl) (by rw [hx]; exact hrow)
    exact Eq.trans e (l6 hB hex hl hes h8 hL hT hall tl (k + 1) hd2)
end
theorem rounds_true {numbers readings : List Int} (hm : (numbers.length : Int) ≤ 9223372036854775807) (hm2 : (readings.length : Int) ≤ 9223372036854775807) : oyezlaw07_BookRounds numbers readings = some true := by
  unfold oyezlaw07_BookRounds oyezkit_Hang
  obtain ⟨ws, hs, H, st, ns, a', t', e1, h, ha, _, h4, _⟩ := Rd.made_ok (metal := numbers) (a := 0) (t := 0) (S := 4) (H := 4) (N := 3) ⟨by omega, by omega⟩ hm (by omega) (by omega) (by omega)
  obtain ⟨c, ps, hit, e, hc⟩ := Rd.opened_eq h
  have h3 := h.hn
  rw [b3_some, e1, b7_some]
  rcases Rd.Best_eq h e hc with ⟨eb, _⟩ | ⟨l, t, eb, hser, _⟩
  · rw [eb, b3_some, if_pos (by decide), b1_some, if_pos rfl, if_neg (by decide), if_pos rfl, awake7, b1_some]
  · by_cases hz : ns.length = 0
    · rw [eb, b3_some, if_neg (by decide), if_pos (by omega), b1_some, if_pos rfl, if_pos rfl, awake7, b1_some]
    · obtain ⟨es, g1, g2, g3, g4, g5⟩ := hser.can
      obtain ⟨s, hp⟩ := hser
      have hfew := hp.few (Rd.full_lt (hc.nine h))
      have hnine := Rd.cnt_nine (2 ^ ps.length - 1)
      have he200 := ends200 (fun n _ => by unfold Rd.bdL; split <;> omega) hp es g2
      have hpos := (Rd.ends_pos hc.fin h.hs1.2 h.note l st 0 es g1 h.hst (Int.le_refl _) g2).1
      have hes : ∀ x ∈ es, 0 ≤ x ∧ x ≤ 200 := fun x hx => ⟨hpos x hx, he200 x hx⟩
      rcases Rd.Heard_eq h e hc g1 (by omega) with ⟨q, _⟩ | ⟨es', L, q1, q2, q3, _, _⟩
      · rw [g2] at q; cases q
      · rw [g2] at q1
        obtain rfl := Option.some.inj q1
        have hLl := q3.len
        obtain ⟨rs, er, hrl, hrr⟩ := l2 hm2 8 0 0 [] ⟨by omega, by omega⟩ (by simp) (fun r hr => (nomatch hr))
        rw [List.length_nil, Nat.zero_add] at hrl
        have hB := bok h (by omega) (by omega) g1 (by omega) hes hrl hrr
        have hex : ∃ c, Bk.FitF none rs c := ⟨_, fit2 rs none (.inl rfl) hrr⟩
        obtain ⟨T, eT, hT⟩ := Bk.Verdicts_eq hB hex
        have hTl := hT.len
        have hall : ∀ n k : Nat, n < ns.length → (k : Int) ∈ (ns.getD n ([], 0, 0)).1 → ∃ e, Rd.HrE hs l es n k e := fun n k hn hk => by
          have hmem : ((n : Int), (k : Int)) ∈ ps := (hc.prs.mem _).2 ⟨⟨by show 0 ≤ (n : Int); omega, by show (n : Int) < _; omega⟩, by
            show (k : Int) ∈ (ns.getD (n : Int).toNat ([], 0, 0)).1
            rw [Int.toNat_natCast]; exact hk⟩
          obtain ⟨p, hpl, hpe⟩ := List.getElem_of_mem hmem
          have hpe' : ps.getD p (0, 0) = ((n : Int), (k : Int)) := by rw [List.getD_eq_getElem?_getD, List.getElem?_eq_getElem hpl]; exact hpe
          have hh := Rd.rem_zero.1 g3 p (by rw [Nat.testBit_two_pow_sub_one, decide_eq_true_iff]; exact hpl)
          rw [Rd.hit_heard h hc g1 g2 hpl, hpe'] at hh
          obtain ⟨x, hx, _⟩ := hh
          exact ⟨x, by simpa using hx⟩
        rw [eb, b3_some, if_neg (by decide), if_neg (by omega), decide_eq_false (by omega), b1_some, if_neg (by decide), Rd.Ends_eq h e hc g1 (by omega), g2]
        dsimp only
        rw [b2_some, q2, b2_some, if_neg (by decide), if_neg (by decide), if_neg (by omega), decide_eq_false (by omega), b1_some, if_neg (by decide), b3_some, l1 hs [] (by have := h.hs1; simp; omega), b1_some, List.nil_append, gd_t ⟨Rd.r64_small (by omega), Rd.r64_small (by omega)⟩]
        have er' : oyezlaw07_BookRounds_l2 readings (Int.toNat (8 - 0)) 0 0 [] = some rs := er
        rw [er', b1_some]
        have e4 := l4 (hs := hs) (H := H) (ns := ns) (L := L) (bh := hearsB hs) (rs := rs) hes g5 g1 l 0 [] rfl (by simp; omega)
        refine Eq.trans e4 ?_
        rw [List.nil_append, List.drop_zero]
        unfold oyezlaw07_BookRounds_j3
        rw [eT, b2_some, if_neg (by decide), decide_eq_false (by omega), b1_some, if_neg (by decide)]
        exact l6 hB hex g1 hes hrl q3 hT hall T 0 rfl
end Go.Proofs.YtggpjocmoelpbaaGreat.Br
