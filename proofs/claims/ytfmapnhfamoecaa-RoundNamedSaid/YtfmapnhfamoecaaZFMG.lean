/- Other numbers for stands and houses; in plain Lean. -/
import Derived.Test.YtfmapnhfamoecaaZFMF
namespace Go.Proofs.Ytfmapnhfamoecaa.Rd
open Go.PL Go.Proofs.Ytfmapnhfamoecaa.Rv
inductive Wlk (ws : List (List Int)) : Nat → Nat → Int → Prop
  | refl (i : Nat) : Wlk ws i i 0
  | step {i j k : Nat} {d : Int} (h : Wlk ws i j d) (he : E0 ws j k ≠ -1) : Wlk ws i k (d + E0 ws j k)
theorem Wlk.trans {ws : List (List Int)} {i j k : Nat} {d e : Int} (h : Wlk ws i j d) (h2 : Wlk ws j k e) : Wlk ws i k (d + e) := by
  induction h2 with
  | refl => rw [Int.add_zero]; exact h
  | step h2 he ih => rw [← Int.add_assoc]; exact .step ih he
def WQ (ws : List (List Int)) (w : List Int) : Prop := (∀ i k, i < 5 → k < 5 → en w i k ≠ -1 → Wlk ws i k (en w i k)) ∧ ∀ i k, i < 5 → k < 5 → E0 ws i k ≠ -1 → en w i k ≠ -1 ∧ en w i k ≤ E0 ws i k
section
variable {ws hs ws' hs' : List (List Int)} {H st st' : Int} {ns ns' : List (List Int × Int × Int)} {c c' : List Int} {ps ps' : List (Int × Int)} {hit hit' : List Int}
theorem opened_wq (h : BtOK ws hs H st ns) (e : round_opened ws hs H st ns = some (some (ws, hs, H, st, ns, c, ps, hit), 0)) : WQ ws c := by
  obtain ⟨c0, a, e1, e2, e3, _⟩ := opened_inj h e
  obtain ⟨c0', a', c', g1, g2, g3, _, hq⟩ := walks_gen h (Q := WQ ws) (fun w w' B hw ht => ⟨fun i k hi hk hne => by
      rcases (ht i k hi hk).from_ with h4 | ⟨j, h4, h5, h6, h7⟩
      · rw [h4] at hne ⊢
        exact hw.1 i k hi hk hne
      · rw [h7]
        exact (hw.1 i j hi h4 h5).trans (hw.1 j k h4 hk h6), fun i k hi hk hne => by
      obtain ⟨h1, h2⟩ := hw.2 i k hi hk hne
      obtain ⟨h3, h4⟩ := (ht i k hi hk).old h1
      exact ⟨h3, Int.le_trans h4 h2⟩⟩) (fun w hw => ⟨fun i k hi hk hne => by
      rw [hw i k hi hk] at hne ⊢
      have := Wlk.step (Wlk.refl (ws := ws) i) hne
      rwa [Int.zero_add] at this, fun i k hi hk hne => by
      rw [hw i k hi hk]; exact ⟨hne, Int.le_refl _⟩⟩)
  rw [e1] at g1
  obtain rfl := Option.some.inj g1
  rw [e2] at g2
  obtain rfl := Option.some.inj g2
  rw [e3] at g3
  obtain rfl := Option.some.inj g3
  exact hq
theorem e0_in {i k : Nat} (h : E0 ws i k ≠ -1) : i < ws.length ∧ k < ws.length := Classical.byContradiction fun q => h (by unfold E0; rw [if_neg q])
theorem wlk_le {S : Nat} (hc : Fin5 S c) (hw : WQ ws c) (hS : S ≤ 5) (hl : ws.length = S) {i k : Nat} {d : Int} (h : Wlk ws i k d) (hi : i < S) : en c i k ≠ -1 ∧ en c i k ≤ d := by
  induction h with
  | refl => rw [hc.shp.diag i hi (by omega)]; exact ⟨by decide, Int.le_refl _⟩
  | @step j k d h he ih =>
    have hjk := e0_in he
    obtain ⟨h1, h2⟩ := hw.2 j k (by omega) (by omega) he
    obtain ⟨h3, h4⟩ := hc.tri i j k (by omega) (by omega) (by omega) ih.1 h1
    have := ih.2
    exact ⟨h3, by omega⟩
def mapN (r : Int → Int) (ns : List (List Int × Int × Int)) : List (List Int × Int × Int) := ns.map fun x => (x.1.map r, x.2.1, x.2.2)
theorem mapN_get (r : Int → Int) (ns : List (List Int × Int × Int)) (i : Nat) : (mapN r ns).getD i ([], 0, 0) = ((ns.getD i ([], 0, 0)).1.map r, (ns.getD i ([], 0, 0)).2.1, (ns.getD i ([], 0, 0)).2.2) := by
  unfold mapN
  rw [List.getD_eq_getElem?_getD, List.getD_eq_getElem?_getD, List.getElem?_map]
  cases ns[i]? <;> rfl
structure Ren (p : Nat → Nat) (r : Int → Int) (ws hs : List (List Int)) (H st : Int) (ns : List (List Int × Int × Int)) (ws' hs' : List (List Int)) (st' : Int) (ns' : List (List Int × Int × Int)) : Prop where
  pb : ∀ i, i < hs.length → p i < hs.length
  pi : ∀ i j, i < hs.length → j < hs.length → p i = p j → i = j
  ps : ∀ j, j < hs.length → ∃ i, i < hs.length ∧ p i = j
  rb : ∀ h, 0 ≤ h → h < H → 0 ≤ r h ∧ r h < H
  ri : ∀ h g, 0 ≤ h → h < H → 0 ≤ g → g < H → r h = r g → h = g
  hl : hs'.length = hs.length
  wl : ws'.length = hs.length
  rl : ∀ i, i < hs.length → (ws'.getD i []).length = hs.length
  hw : ∀ i k, i < hs.length → k < hs.length → (ws'.getD (p i) []).getD (p k) 0 = (ws.getD i []).getD k 0
  hh : ∀ i, i < hs.length → hs'.getD (p i) [] = (hs.getD i []).map r
  hst : st' = ((p st.toNat : Nat) : Int)
  hn : ns' = mapN r ns
variable {p : Nat → Nat} {r : Int → Int}
theorem map_nodup {l : List Int} (h : l.Nodup) (hx : ∀ x ∈ l, 0 ≤ x ∧ x < H) (hr : ∀ h g, 0 ≤ h → h < H → 0 ≤ g → g < H → r h = r g → h = g) : (l.map r).Nodup := by
  unfold List.Nodup
  rw [List.pairwise_map]
  refine List.Pairwise.imp_of_mem (fun {a b} ha hb hab he => ?_) h
  exact hab (hr a b (hx a ha).1 (hx a ha).2 (hx b hb).1 (hx b hb).2 he)
theorem Ren.ok (R : Ren p r ws hs H st ns ws' hs' st' ns') (h : BtOK ws hs H st ns) : BtOK ws' hs' H st' ns' := by
  have hw := h.hw
  have hst := h.hst
  have hl := R.hl
  refine ⟨by rw [hl]; exact h.hs1, by rw [hl]; exact R.wl, h.hH, ?_, fun i' hi' => ?_, fun l hl' => ?_, ?_, fun x hx => ?_, ?_⟩
  · have := R.pb st.toNat (by omega)
    rw [R.hst, hl]; omega
  · rw [R.wl] at hi'
    refine ⟨by rw [hl]; exact R.rl i' hi', fun j' hj' => ?_⟩
    rw [hl] at hj'
    obtain ⟨i, hi, rfl⟩ := R.ps i' hi'
    obtain ⟨j, hj, rfl⟩ := R.ps j' hj'
    rw [R.hw i j hi hj]
    obtain ⟨q1, q2⟩ := (h.row i (by omega)).2 j hj
    exact ⟨fun e => q1 (R.pi i j hi hj e), fun e => q2 fun e2 => e (by rw [e2])⟩
  · obtain ⟨i', hi', rfl⟩ := List.getElem_of_mem hl'
    obtain ⟨i, hi, hp⟩ := R.ps i' (by omega)
    have hg : hs'[i'] = (hs.getD i []).map r := by
      rw [← R.hh i hi, hp, List.getD_eq_getElem?_getD, List.getElem?_eq_getElem hi']; rfl
    obtain ⟨q1, q2⟩ := h.hear _ (getD_mem (d := []) hi)
    rw [hg]
    refine ⟨map_nodup q1 q2 R.ri, fun x hx => ?_⟩
    obtain ⟨y, hy, rfl⟩ := List.mem_map.1 hx
    exact R.rb y (q2 y hy).1 (q2 y hy).2
  · rw [R.hn]; unfold mapN; rw [List.length_map]; exact h.hn
  · rw [R.hn] at hx
    obtain ⟨y, hy, rfl⟩ := List.mem_map.1 hx
    obtain ⟨⟨q1, q2, q3⟩, q4, q5⟩ := h.note y hy
    refine ⟨⟨by rw [List.length_map]; exact q1, map_nodup q2 q3 R.ri, fun x hx => ?_⟩, q4, q5⟩
    obtain ⟨z, hz, rfl⟩ := List.mem_map.1 hx
    exact R.rb z (q3 z hz).1 (q3 z hz).2
  · have : total ns' = total ns := by
      rw [R.hn]; unfold total mapN
      rw [List.map_map]
      congr 1
      exact List.map_congr_left fun x _ => List.length_map ..
    rw [this]; exact h.tot
theorem Ren.e0 (R : Ren p r ws hs H st ns ws' hs' st' ns') (h : BtOK ws hs H st ns) {i k : Nat} (hi : i < hs.length) (hk : k < hs.length) : E0 ws' (p i) (p k) = E0 ws i k := by
  have hw := h.hw
  have wl := R.wl
  have := R.pb i hi
  have := R.pb k hk
  unfold E0
  rw [if_pos (by omega), if_pos (by omega), R.hw i k hi hk]
theorem Ren.wlk (R : Ren p r ws hs H st ns ws' hs' st' ns') (h : BtOK ws hs H st ns) {i k : Nat} {d : Int} (hq : Wlk ws i k d) (_hi : i < hs.length) : Wlk ws' (p i) (p k) d := by
  have hw := h.hw
  induction hq with
  | refl => exact .refl _
  | @step j k d hq he ih =>
    obtain ⟨h1, h2⟩ := e0_in he
    rw [← R.e0 h (by omega) (by omega)] at he ⊢
    exact .step ih he
theorem Ren.wlk2 (R : Ren p r ws hs H st ns ws' hs' st' ns') (h : BtOK ws hs H st ns) {i : Nat} (hi : i < hs.length) {i' k' : Nat} {d : Int} (hq : Wlk ws' i' k' d) : i' = p i → ∃ k, k < hs.length ∧ k' = p k ∧ Wlk ws i k d := by
  have hw := h.hw
  have wl := R.wl
  induction hq with
  | refl => exact fun e => ⟨i, hi, e, .refl _⟩
  | @step j' k' d hq he ih =>
    intro e
    obtain ⟨j, hj, rfl, hq'⟩ := ih e
    obtain ⟨h1, h2⟩ := e0_in he
    obtain ⟨k, hk, rfl⟩ := R.ps k' (by omega)
    rw [R.e0 h hj hk] at he ⊢
    exact ⟨k, hk, rfl, .step hq' he⟩
theorem Ren.walk (R : Ren p r ws hs H st ns ws' hs' st' ns') (h : BtOK ws hs H st ns) (hc : Fin5 hs.length c) (hq : WQ ws c) (hc' : Fin5 hs.length c') (hq' : WQ ws' c') {i k : Nat} (hi : i < hs.length) (hk : k < hs.length) : en c' (p i) (p k) = en c i k := by
  have hw := h.hw
  have wl := R.wl
  have h5 := h.hs1.2
  have bi := R.pb i hi
  have bk := R.pb k hk
  have r1 := hc.rng i k (by omega) (by omega)
  have r2 := hc'.rng (p i) (p k) (by omega) (by omega)
  have a1 : en c i k ≠ -1 → en c' (p i) (p k) ≠ -1 ∧ en c' (p i) (p k) ≤ en c i k := fun q => wlk_le hc' hq' h5 wl (R.wlk h (hq.1 i k (by omega) (by omega) q) hi) bi
  have a2 : en c' (p i) (p k) ≠ -1 → en c i k ≠ -1 ∧ en c i k ≤ en c' (p i) (p k) := fun q => by
    obtain ⟨k2, hk2, e, q2⟩ := R.wlk2 h hi (hq'.1 (p i) (p k) (by omega) (by omega) q) rfl
    obtain rfl := R.pi k k2 hk hk2 e
    exact wlk_le hc hq h5 hw q2 hi
  by_cases e1 : en c i k = -1
  · by_cases e2 : en c' (p i) (p k) = -1
    · rw [e1, e2]
    · exact absurd e1 (a2 e2).1
  · obtain ⟨q1, q2⟩ := a1 e1
    have := (a2 q1).2
    omega
def gR (p : Nat → Nat) (x : Int × Int) : Int × Int := (((p x.1.toNat : Nat) : Int), x.2)
def rp (r : Int → Int) (q : Int × Int) : Int × Int := (q.1, r q.2)
structure RenC (p : Nat → Nat) (r : Int → Int) (ws hs : List (List Int)) (H st : Int) (ns : List (List Int × Int × Int)) (ws' hs' : List (List Int)) (st' : Int) (ns' : List (List Int × Int × Int)) (c : List Int) (ps : List (Int × Int)) (hit c' : List Int) (ps' : List (Int × Int)) (hit' : List Int) : Prop where
  R : Ren p r ws hs H st ns ws' hs' st' ns'
  h : BtOK ws hs H st ns
  hc : CrOK hs ns c ps hit
  h' : BtOK ws' hs' H st' ns'
  hc' : CrOK hs' ns' c' ps' hit'
  walk : ∀ i k, i < hs.length → k < hs.length → en c' (p i) (p k) = en c i k
variable {v v' : Nat}
theorem RenC.nlen (X : RenC p r ws hs H st ns ws' hs' st' ns' c ps hit c' ps' hit') : ns'.length = ns.length := by rw [X.R.hn]; unfold mapN; exact List.length_map ..
theorem RenC.wrd (X : RenC p r ws hs H st ns ws' hs' st' ns' c ps hit c' ps' hit') (n : Nat) : wrd ns' n = wrd ns n := by
  unfold Rd.wrd; rw [X.R.hn, mapN_get]
theorem RenC.bd (X : RenC p r ws hs H st ns ws' hs' st' ns' c ps hit c' ps' hit') (n : Nat) : bdL ns' 200 n = bdL ns 200 n := by
  unfold bdL; rw [X.R.hn, mapN_get]
theorem RenC.cry (X : RenC p r ws hs H st ns ws' hs' st' ns' c ps hit c' ps' hit') {l : List (Int × Int)} (hl : CryOK hs.length ns.length l) : CryOK hs'.length ns'.length (l.map (gR p)) := fun x hx => by
  obtain ⟨y, hy, rfl⟩ := List.mem_map.1 hx
  obtain ⟨h1, h2⟩ := hl y hy
  have := X.R.pb y.1.toNat (by omega)
  have h3 := X.R.hl
  refine ⟨⟨by show 0 ≤ ((p y.1.toNat : Nat) : Int); omega, by show ((p y.1.toNat : Nat) : Int) < _; omega⟩, ?_⟩
  rw [X.nlen]; exact h2
theorem RenC.ends (X : RenC p r ws hs H st ns ws' hs' st' ns' c ps hit c' ps' hit') : ∀ (l : List (Int × Int)) (k m : Int), CryOK hs.length ns.length l → (0 ≤ k ∧ k < (hs.length : Int)) → endsF c' ns' ((p k.toNat : Nat) : Int) m (l.map (gR p)) = endsF c ns k m l
  | [], _, _, _, _ => rfl
  | x :: l, k, m, hl, hk => by
    obtain ⟨h1, h2⟩ := hl x (by simp)
    have ih := RenC.ends X l x.1 (m + en c k.toNat x.1.toNat + Rd.wrd ns x.2.toNat) (fun z hz => hl z (by simp [hz])) h1
    rw [List.map_cons]
    unfold endsF
    show (if en c' ((p k.toNat : Nat) : Int).toNat ((p x.1.toNat : Nat) : Int).toNat = -1 then none else (endsF c' ns' ((p x.1.toNat : Nat) : Int) (m + en c' ((p k.toNat : Nat) : Int).toNat ((p x.1.toNat : Nat) : Int).toNat + Rd.wrd ns' x.2.toNat) (l.map (gR p))).map ((m + en c' ((p k.toNat : Nat) : Int).toNat ((p x.1.toNat : Nat) : Int).toNat + Rd.wrd ns' x.2.toNat) :: ·)) = _
    rw [Int.toNat_natCast, Int.toNat_natCast, X.walk _ _ (by omega) (by omega), X.wrd, ih]
theorem RenC.ends0 (X : RenC p r ws hs H st ns ws' hs' st' ns' c ps hit c' ps' hit') {l : List (Int × Int)} (hl : CryOK hs.length ns.length l) : endsF c' ns' st' 0 (l.map (gR p)) = endsF c ns st 0 l := by
  rw [X.R.hst]; exact X.ends l st 0 hl X.h.hst
theorem RenC.hr (X : RenC p r ws hs H st ns ws' hs' st' ns' c ps hit c' ps' hit') {l : List (Int × Int)} {es : List Int} (hl : CryOK hs.length ns.length l) {n h : Nat} (hh : (h : Int) < H) {e : Int} : HrE hs' (l.map (gR p)) es n (r h).toNat e ↔ HrE hs l es n h e := by
  have hb := X.R.rb h (by omega) hh
  unfold HrE
  rw [List.zip_map_left]
  have key : ∀ y ∈ l.zip es, ((((r h).toNat : Nat) : Int) ∈ hs'.getD (gR p y.1).1.toNat [] ↔ (h : Int) ∈ hs.getD y.1.1.toNat []) := fun y hy => by
    obtain ⟨a1, _⟩ := hl y.1 (List.of_mem_zip hy).1
    show _ ∈ hs'.getD ((p y.1.1.toNat : Nat) : Int).toNat [] ↔ _
    rw [Int.toNat_natCast, X.R.hh _ (by omega), show (((r h).toNat : Nat) : Int) = r h by omega, List.mem_map]
    constructor
    · rintro ⟨g, hg, he⟩
      have hgr := (X.h.hear _ (getD_mem (d := []) (i := y.1.1.toNat) (by omega))).2 g hg
      rw [← X.R.ri g h hgr.1 hgr.2 (by omega) hh he]; exact hg
    · exact fun hg => ⟨h, hg, rfl⟩
  constructor
  · rintro ⟨z, hz, h1, h2, h3⟩
    obtain ⟨y, hy, rfl⟩ := List.mem_map.1 hz
    exact ⟨y, hy, h1, (key y hy).1 h2, h3⟩
  · rintro ⟨y, hy, h1, h2, h3⟩
    exact ⟨Prod.map (gR p) id y, List.mem_map.2 ⟨y, hy, rfl⟩, h1, (key y hy).2 h2, h3⟩
theorem RenC.pair (X : RenC p r ws hs H st ns ws' hs' st' ns' c ps hit c' ps' hit') {q : Int × Int} (hq : q ∈ ps) : rp r q ∈ ps' := by
  obtain ⟨h1, h2⟩ := (X.hc.prs.mem q).1 hq
  refine (X.hc'.prs.mem _).2 ⟨by rw [X.nlen]; exact h1, ?_⟩
  show r q.2 ∈ (ns'.getD q.1.toNat ([], 0, 0)).1
  rw [X.R.hn, mapN_get]
  exact List.mem_map.2 ⟨q.2, h2, rfl⟩
theorem RenC.pair2 (X : RenC p r ws hs H st ns ws' hs' st' ns' c ps hit c' ps' hit') {q' : Int × Int} (hq : q' ∈ ps') : ∃ q ∈ ps, q' = rp r q := by
  obtain ⟨h1, h2⟩ := (X.hc'.prs.mem q').1 hq
  rw [X.R.hn, mapN_get] at h2
  rw [X.nlen] at h1
  obtain ⟨g, hg, he⟩ := List.mem_map.1 h2
  exact ⟨(q'.1, g), (X.hc.prs.mem _).2 ⟨h1, hg⟩, by unfold rp; rw [he]⟩
theorem RenC.rp_inj (X : RenC p r ws hs H st ns ws' hs' st' ns' c ps hit c' ps' hit') {a b : Int × Int} (ha : a ∈ ps) (hb : b ∈ ps) (he : rp r a = rp r b) : a = b := by
  have r1 := (PrsOK.rng X.h X.hc ha).2
  have r2 := (PrsOK.rng X.h X.hc hb).2
  have e1 : (rp r a).1 = (rp r b).1 := by rw [he]
  have e2 : (rp r a).2 = (rp r b).2 := by rw [he]
  exact Prod.ext e1 (X.R.ri _ _ r1.1 r1.2 r2.1 r2.2 e2)
def Cor (r : Int → Int) (ps ps' : List (Int × Int)) (v v' : Nat) : Prop := v < 2 ^ ps.length ∧ v' < 2 ^ ps'.length ∧ ∀ i i', i < ps.length → i' < ps'.length → ps'.getD i' (0, 0) = rp r (ps.getD i (0, 0)) → v.testBit i = v'.testBit i'
theorem bit_len {v n i : Nat} (hv : v < 2 ^ n) (h : v.testBit i = true) : i < n := by
  rcases Nat.lt_or_ge i n with h1 | h1
  · exact h1
  · have h2 : (2 : Nat) ^ n ≤ 2 ^ i := Nat.pow_le_pow_right (by decide) h1
    rw [Nat.testBit_lt_two_pow (by omega)] at h; cases h
theorem RenC.rem (X : RenC p r ws hs H st ns ws' hs' st' ns' c ps hit c' ps' hit') (hv : Cor r ps ps' v v') {l : List (Int × Int)} {es : List Int} (hl : CryOK hs.length ns.length l) (he : endsF c ns st 0 l = some es) : remF c' ns' hit' (bdL ns' 200) st' 0 v' (l.map (gR p)) = 0 ↔ remF c ns hit (bdL ns 200) st 0 v l = 0 := by
  obtain ⟨v1, v2, hv⟩ := hv
  have he' := X.ends0 hl
  rw [he] at he'
  have hl' := X.cry hl
  have hone : ∀ i i', i < ps.length → i' < ps'.length → ps'.getD i' (0, 0) = rp r (ps.getD i (0, 0)) → (hitF c' ns' hit' (bdL ns' 200) st' 0 (l.map (gR p)) i' = true ↔ hitF c ns hit (bdL ns 200) st 0 l i = true) := fun i i' hi hi' e => by
    have hr := PrsOK.rng X.h X.hc (getD_mem (d := (0, 0)) hi)
    rw [hit_heard X.h' X.hc' hl' he' hi', hit_heard X.h X.hc hl he hi, e]
    have hq : ∀ x, HrE hs' (l.map (gR p)) es (rp r (ps.getD i (0, 0))).1.toNat (rp r (ps.getD i (0, 0))).2.toNat x ↔ HrE hs l es (ps.getD i (0, 0)).1.toNat (ps.getD i (0, 0)).2.toNat x := fun x => by
      have := X.hr (es := es) hl (n := (ps.getD i (0, 0)).1.toNat) (h := (ps.getD i (0, 0)).2.toNat) (by omega) (e := x)
      rw [show (((ps.getD i (0, 0)).2.toNat : Nat) : Int) = (ps.getD i (0, 0)).2 by omega] at this
      exact this
    constructor
    · rintro ⟨x, q1, q2⟩
      exact ⟨x, (hq x).1 q1, by rw [← X.bd]; exact q2⟩
    · rintro ⟨x, q1, q2⟩
      exact ⟨x, (hq x).2 q1, by rw [X.bd]; exact q2⟩
  rw [rem_zero, rem_zero]
  constructor
  · intro hz i hb
    have hi := bit_len v1 hb
    obtain ⟨i', hi', e⟩ := List.getElem_of_mem (X.pair (getD_mem (d := (0, 0)) hi))
    have e' : ps'.getD i' (0, 0) = rp r (ps.getD i (0, 0)) := by rw [List.getD_eq_getElem?_getD, List.getElem?_eq_getElem hi']; exact e
    exact (hone i i' hi hi' e').1 (hz i' (by rw [← hv i i' hi hi' e']; exact hb))
  · intro hz i' hb
    have hi' := bit_len v2 hb
    obtain ⟨q, hq, e⟩ := X.pair2 (getD_mem (d := (0, 0)) hi')
    obtain ⟨i, hi, e2⟩ := List.getElem_of_mem hq
    have e' : ps'.getD i' (0, 0) = rp r (ps.getD i (0, 0)) := by
      rw [e, ← e2, List.getD_eq_getElem?_getD (l := ps), List.getElem?_eq_getElem hi]; rfl
    exact (hone i i' hi hi' e').2 (hz i (by rw [hv i i' hi hi' e']; exact hb))
theorem RenC.rnd (X : RenC p r ws hs H st ns ws' hs' st' ns' c ps hit c' ps' hit') (hv : Cor r ps ps' v v') {T : Int} : Rnd c' ns' hit' hs' st' (bdL ns' 200) v' T ↔ Rnd c ns hit hs st (bdL ns 200) v T := by
  constructor
  · rintro ⟨l, es, h1, h2, h3, h4⟩
    have hf : ∃ f : Nat → Nat, ∀ j, j < hs.length → f j < hs.length ∧ p (f j) = j := ⟨fun j => if h : j < hs.length then Classical.choose (X.R.ps j h) else 0, fun j hj => by
      simp only [dif_pos hj]
      exact Classical.choose_spec (X.R.ps j hj)⟩
    obtain ⟨f, hf⟩ := hf
    have hlen := X.R.hl
    have hb : (l.map fun x => (((f x.1.toNat : Nat) : Int), x.2)).map (gR p) = l := by
      rw [List.map_map]
      refine (List.map_congr_left fun x hx => ?_).trans (List.map_id l)
      obtain ⟨a1, _⟩ := h1 x hx
      have := (hf x.1.toNat (by omega)).2
      show (((p ((f x.1.toNat : Nat) : Int).toNat : Nat) : Int), x.2) = x
      rw [Int.toNat_natCast, this, show ((x.1.toNat : Nat) : Int) = x.1 by omega]
    have hl : CryOK hs.length ns.length (l.map fun x => (((f x.1.toNat : Nat) : Int), x.2)) := fun y hy => by
      obtain ⟨x, hx, rfl⟩ := List.mem_map.1 hy
      obtain ⟨a1, a2⟩ := h1 x hx
      rw [X.nlen] at a2
      have := (hf x.1.toNat (by omega)).1
      exact ⟨⟨by show 0 ≤ ((f x.1.toNat : Nat) : Int); omega, by show ((f x.1.toNat : Nat) : Int) < _; omega⟩, a2⟩
    have he := X.ends0 hl
    rw [hb, h2] at he
    refine ⟨_, es, hl, he.symm, (X.rem hv hl he.symm).1 (by rw [hb]; exact h3), h4⟩
  · rintro ⟨l, es, h1, h2, h3, h4⟩
    have he := X.ends0 h1
    rw [h2] at he
    exact ⟨l.map (gR p), es, X.cry h1, he, (X.rem hv h1 h2).2 h3, h4⟩
theorem RenC.minT (X : RenC p r ws hs H st ns ws' hs' st' ns' c ps hit c' ps' hit') (hv : Cor r ps ps' v v') {t : Int} : MinT c' ns' hit' hs' st' (bdL ns' 200) v' t ↔ MinT c ns hit hs st (bdL ns 200) v t := by
  unfold MinT
  rw [X.rnd hv]
  exact ⟨fun q => ⟨q.1, fun T z => q.2 T ((X.rnd hv).2 z)⟩, fun q => ⟨q.1, fun T z => q.2 T ((X.rnd hv).1 z)⟩⟩
theorem can_rnd : Can c ns hit hs st (bdL ns 200) v ↔ ∃ T, Rnd c ns hit hs st (bdL ns 200) v T :=
  ⟨fun ⟨l, es, h1, h2, h3⟩ => ⟨es.getLastD 0, l, es, h1, h2, h3, Int.le_refl _⟩, fun ⟨_, l, es, h1, h2, h3, _⟩ => ⟨l, es, h1, h2, h3⟩⟩
theorem RenC.can (X : RenC p r ws hs H st ns ws' hs' st' ns' c ps hit c' ps' hit') (hv : Cor r ps ps' v v') : Can c' ns' hit' hs' st' (bdL ns' 200) v' ↔ Can c ns hit hs st (bdL ns 200) v := by
  rw [can_rnd, can_rnd]
  exact ⟨fun ⟨T, q⟩ => ⟨T, (X.rnd hv).1 q⟩, fun ⟨T, q⟩ => ⟨T, (X.rnd hv).2 q⟩⟩
end
end Go.Proofs.Ytfmapnhfamoecaa.Rd
namespace Go.Proofs.Ytfmapnhfamoecaa.Rd
open Go.PL Go.Proofs.Ytfmapnhfamoecaa.Rv
def mostF (g : List Int → Bool) (N : Nat) : Nat → Nat → List Int → List Int → List Int
  | 0, _, l, out => if g l then (if out.length < l.length then l else out) else out
  | m + 1, f, l, out => if g l then (List.range' f (N - f)).foldl (fun o j => mostF g N m (j + 1) (l ++ [(j : Int)]) o) (if out.length < l.length then l else out) else out
theorem mostF_succ (g : List Int → Bool) (N m f : Nat) (l out : List Int) : mostF g N (m + 1) f l out = if g l then (List.range' f (N - f)).foldl (fun o j => mostF g N m (j + 1) (l ++ [(j : Int)]) o) (if out.length < l.length then l else out) else out := rfl
section
variable {ws hs ws' hs' : List (List Int)} {H st st' : Int} {ns ns' : List (List Int × Int × Int)} {c c' : List Int} {ps ps' : List (Int × Int)} {hit hit' : List Int} {D : Nat → Bool} {p : Nat → Nat} {r : Int → Int}
theorem mostF_l1 {l : List Int} (hl : l.length ≤ 900) {rec_ : List Int → Int → List (List Int) → List (List Int) → Int → Int → List (List Int × Int × Int) → List Int → List (Int × Int) → List Int → List Int → List (List Int) → List (List Int) → Int → Int → List (List Int × Int × Int) → Option (List Int)} {G : Nat → List Int → List Int} : ∀ (fu i : Nat) (out : List Int),
    (∀ (j : Nat) (o : List Int), i ≤ j → j < i + fu → rec_ (l ++ [(j : Int)]) ((j : Int) + 1) ws hs H st ns c ps hit o ws hs H st ns = some (G j o)) →
    round_Most_1B_l1 l ws hs H st ns c ps hit ws hs H st ns rec_ fu (i : Int) out = some ((List.range' i fu).foldl (fun o j => G j o) out)
  | 0, i, out, _ => rfl
  | fu + 1, i, out, hrec => by
    unfold round_Most_1B_l1
    rw [cloneI_eq l (by omega), b1_some, ap_t (by simp; omega), hrec i out (Nat.le_refl _) (by omega), b1_some]
    exact mostF_l1 hl fu (i + 1) (G i out) fun j o h1 h2 => hrec j o (by omega) (by omega)
theorem mostF_ok (h : BtOK ws hs H st ns) (hc : CrOK hs ns c ps hit) (hD : ∀ v, D v = true ↔ Can c ns hit hs st (bdL ns 200) v) : ∀ (m fu f : Nat) (l out : List Int), f ≤ ns.length → ns.length - f ≤ m → m < fu → l.length + m ≤ 900 →
    round_Most_1 fu l (f : Int) ws hs H st ns c ps hit out ws hs H st ns = some (mostF (fun l => D (ofB ps l)) ns.length m f l out)
  | _, 0, _, _, _, _, _, hf, _ => by omega
  | m, fu + 1, f, l, out, hfn, hm, hf, hl => by
    have h9 := hc.nine h
    have h3 := h.hn
    have hpn := pow_nine h9
    have hlt := ofB_lt ps l
    obtain ⟨l2, t2, es⟩ := serve_D h hc (bd := bdL ns 200) (ok := fun xx_ : Int × Int => round_crier_by_1 xx_.1 xx_.2 200 ws hs H st ns c ps hit) (bdL_le (by decide)) (by_ok 200) hD (v := ofB ps l) (by omega)
    have hif : (if (out.length : Int) < (l.length : Int) then some l else some out) = some (if out.length < l.length then l else out) := by
      by_cases q : out.length < l.length
      · rw [if_pos q, if_pos (by omega)]
      · rw [if_neg q, if_neg (by omega)]
    unfold round_Most_1 round_Most_1B
    rw [of_eq h9, b1_some]
    unfold round_crier_hours round_crier_by
    rw [b1_some, b1_some, es, b3_some, hif, b1_some, gd_t ⟨r64_small (by omega), r64_small (by omega)⟩, show Int.toNat ((ns.length : Int) - (f : Int)) = ns.length - f by omega]
    cases m with
    | zero =>
      have h0 : ns.length - f = 0 := by omega
      rw [h0]
      unfold mostF
      show (if (!D (ofB ps l)) = true then some out else some (if out.length < l.length then l else out)) = some (if D (ofB ps l) = true then _ else _)
      cases D (ofB ps l) <;> rfl
    | succ m =>
      rw [mostF_l1 (G := fun j o => mostF (fun l => D (ofB ps l)) ns.length m (j + 1) (l ++ [(j : Int)]) o) (by omega) (ns.length - f) f _ fun j o h1 h2 => mostF_ok h hc hD m fu (j + 1) (l ++ [(j : Int)]) o (by omega) (by omega) (by omega) (by simp; omega)]
      rw [mostF_succ]
      show (if (!D (ofB ps l)) = true then some out else some _) = some (if D (ofB ps l) = true then _ else _)
      cases D (ofB ps l) <;> rfl
theorem Most_F (h : BtOK ws hs H st ns) (e : round_opened ws hs H st ns = some (some (ws, hs, H, st, ns, c, ps, hit), 0)) (hc : CrOK hs ns c ps hit) (hD : ∀ v, D v = true ↔ Can c ns hit hs st (bdL ns 200) v) : round_Most ws hs H st ns = some (mostF (fun l => D (ofB ps l)) ns.length ns.length 0 [] [], 0) := by
  have h3 := h.hn
  have e1 := mostF_ok h hc hD ns.length FU 0 [] [] (Nat.zero_le _) (by omega) (by unfold FU; omega) (by simp; omega)
  have e1' : round_Most_1 FU [] 0 ws hs H st ns c ps hit [] ws hs H st ns = some (mostF (fun l => D (ofB ps l)) ns.length ns.length 0 [] []) := e1
  unfold round_Most
  rw [e, b2_some, if_neg (by decide), b8_some, e1', b1_some]
theorem cor_of (X : RenC p r ws hs H st ns ws' hs' st' ns' c ps hit c' ps' hit') (l : List Int) : Cor r ps ps' (ofB ps l) (ofB ps' l) := by
  refine ⟨ofB_lt .., ofB_lt .., fun i i' hi hi' e => ?_⟩
  have _ := X.h
  rw [ofB_bit, ofB_bit, decide_eq_decide, e]
  exact ⟨fun q => ⟨hi', q.2⟩, fun q => ⟨hi, q.2⟩⟩
theorem cor_all : Cor r ps ps' (2 ^ ps.length - 1) (2 ^ ps'.length - 1) := by
  have h1 : 0 < 2 ^ ps.length := Nat.pow_pos (by decide)
  have h2 : 0 < 2 ^ ps'.length := Nat.pow_pos (by decide)
  refine ⟨by omega, by omega, fun i i' hi hi' _ => ?_⟩
  rw [Nat.testBit_two_pow_sub_one, Nat.testBit_two_pow_sub_one, decide_eq_true hi, decide_eq_true hi']
theorem getP {i : Nat} (hi : i < ps.length) : ps.getD i (0, 0) = ps[i] := by rw [List.getD_eq_getElem?_getD, List.getElem?_eq_getElem hi]; rfl
theorem getP_inj (hd : ps.Nodup) {i j : Nat} (hi : i < ps.length) (hj : j < ps.length) (h : ps.getD i (0, 0) = ps.getD j (0, 0)) : i = j := by
  rw [getP hi, getP hj] at h
  have hp := List.pairwise_iff_getElem.1 hd
  rcases Nat.lt_trichotomy i j with h1 | h1 | h1
  · exact absurd h (hp i j hi hj h1)
  · exact h1
  · exact absurd h.symm (hp j i hj hi h1)
theorem selP_nodup (hd : ps.Nodup) {T : List Nat} (hT : Up ps.length 0 T) : (selP ps T).Nodup := by
  unfold selP List.Nodup
  rw [List.pairwise_map]
  exact List.Pairwise.imp_of_mem (fun {a b} ha hb hab e => by
    have := getP_inj hd (hT.2 a ha).2 (hT.2 b hb).2 e
    omega) hT.1
theorem selP_mem (hd : ps.Nodup) {T : List Nat} (hT : Up ps.length 0 T) {i : Nat} (hi : i < ps.length) : ps.getD i (0, 0) ∈ selP ps T ↔ i ∈ T := by
  unfold selP
  rw [List.mem_map]
  exact ⟨fun ⟨j, hj, e⟩ => by rw [← getP_inj hd (hT.2 j hj).2 hi e]; exact hj, fun q => ⟨i, q, rfl⟩⟩
theorem up_filter (n : Nat) (q : Nat → Bool) : Up n 0 ((List.range n).filter q) := ⟨List.pairwise_lt_range.filter _, fun _i hi => ⟨Nat.zero_le _, List.mem_range.1 (List.mem_filter.1 hi).1⟩⟩
theorem setL_len {T : List Nat} (hT : Up ps.length 0 T) : setL T 0 < 2 ^ ps.length := setL_lt T 0 (Nat.pow_pos (by decide)) fun i hi => (hT.2 i hi).2
theorem setL_b (T : List Nat) (i : Nat) : (setL T 0).testBit i = decide (i ∈ T) := by rw [setL_bit, Nat.zero_testBit, Bool.false_or]
theorem cor_to (X : RenC p r ws hs H st ns ws' hs' st' ns' c ps hit c' ps' hit') {T : List Nat} (hT : Up ps.length 0 T) : ∃ T', Up ps'.length 0 T' ∧ T'.length ≤ T.length ∧ Cor r ps ps' (setL T 0) (setL T' 0) := by
  have hT' := up_filter ps'.length fun i' => decide (ps'.getD i' (0, 0) ∈ (selP ps T).map (rp r))
  refine ⟨_, hT', ?_, setL_len hT, setL_len hT', fun i i' hi hi' e => ?_⟩
  · have hn := selP_nodup X.hc'.prs.nodup hT'
    have hs' := hn.length_le_of_subset (l₂ := (selP ps T).map (rp r)) fun q hq => by
      obtain ⟨i', hi', rfl⟩ := List.mem_map.1 hq
      exact of_decide_eq_true (List.mem_filter.1 hi').2
    rw [selP_len, List.length_map, selP_len] at hs'
    exact hs'
  · rw [setL_b, setL_b, decide_eq_decide, List.mem_filter, List.mem_range, decide_eq_true_iff, e, List.mem_map]
    constructor
    · exact fun q => ⟨hi', _, (selP_mem X.hc.prs.nodup hT hi).2 q, rfl⟩
    · rintro ⟨_, q, hq, he⟩
      have hqp : q ∈ ps := by
        obtain ⟨j, hj, rfl⟩ := List.mem_map.1 hq
        exact getD_mem (hT.2 j hj).2
      rw [X.rp_inj hqp (getD_mem hi) he] at hq
      exact (selP_mem X.hc.prs.nodup hT hi).1 hq
theorem cor_from (X : RenC p r ws hs H st ns ws' hs' st' ns' c ps hit c' ps' hit') {T' : List Nat} (hT' : Up ps'.length 0 T') : ∃ T, Up ps.length 0 T ∧ T.length ≤ T'.length ∧ Cor r ps ps' (setL T 0) (setL T' 0) := by
  have hT := up_filter ps.length fun i => decide (rp r (ps.getD i (0, 0)) ∈ selP ps' T')
  refine ⟨_, hT, ?_, setL_len hT, setL_len hT', fun i i' hi hi' e => ?_⟩
  · have hn : ((selP ps ((List.range ps.length).filter fun i => decide (rp r (ps.getD i (0, 0)) ∈ selP ps' T'))).map (rp r)).Nodup := by
      unfold List.Nodup
      rw [List.pairwise_map]
      refine List.Pairwise.imp_of_mem (fun {a b} ha hb hab e => hab ?_) (selP_nodup X.hc.prs.nodup hT)
      have mem : ∀ q ∈ selP ps ((List.range ps.length).filter fun i => decide (rp r (ps.getD i (0, 0)) ∈ selP ps' T')), q ∈ ps := fun q hq => by
        obtain ⟨j, hj, rfl⟩ := List.mem_map.1 hq
        exact getD_mem (hT.2 j hj).2
      exact X.rp_inj (mem a ha) (mem b hb) e
    have hs' := hn.length_le_of_subset (l₂ := selP ps' T') fun q hq => by
      obtain ⟨q0, hq0, rfl⟩ := List.mem_map.1 hq
      obtain ⟨i, hi, rfl⟩ := List.mem_map.1 hq0
      exact of_decide_eq_true (List.mem_filter.1 hi).2
    rw [List.length_map, selP_len, selP_len] at hs'
    exact hs'
  · rw [setL_b, setL_b, decide_eq_decide, List.mem_filter, List.mem_range, decide_eq_true_iff, ← e, selP_mem X.hc'.prs.nodup hT' hi']
    exact ⟨fun q => q.2, fun q => ⟨hi, q⟩⟩
theorem TwoP.best {V : Nat → Option Int} {W W' : Nat → List Int} {k : Nat} {out out' : List Int} {b b' : Int} (h : TwoP V W k out b) (h' : TwoP V W' k out' b') : b = b' := by
  rcases h with ⟨q1, q2, q3⟩ | ⟨n, q1, q2, q3, q4, q5, q6⟩ <;> rcases h' with ⟨p1, p2, p3⟩ | ⟨m, p1, p2, p3, p4, p5, p6⟩
  · omega
  · rw [q3 m p1] at p3; cases p3
  · rw [p3 n q1] at q3; cases q3
  · have := q5 m b' p1 p3
    have := p5 n b q1 q3
    omega
theorem ord_all {n : Nat} {l : List Int} (h : Ord n l) {j : Nat} (hj : j < n) : ∃ i, i < n ∧ (l.getD i 0).toNat = j := by
  refine Classical.byContradiction fun hn => ?_
  have hsub : ∀ x ∈ l, x ∈ ((List.range n).filter fun i => decide (i ≠ j)).map fun i : Nat => (i : Int) := fun x hx => by
    have hr := h.2.2 x hx
    obtain ⟨i, hi, rfl⟩ := List.getElem_of_mem hx
    refine List.mem_map.2 ⟨l[i].toNat, List.mem_filter.2 ⟨List.mem_range.2 (by omega), decide_eq_true fun e => hn ⟨i, by rw [← h.1]; exact hi, ?_⟩⟩, by omega⟩
    rw [List.getD_eq_getElem?_getD, List.getElem?_eq_getElem hi]; exact e
  have hle := h.2.1.length_le_of_subset hsub
  rw [List.length_map, h.1] at hle
  have hlt : ((List.range n).filter fun i => decide (i ≠ j)).length < n := by
    have := countP_lt (p := fun _ : Nat => true) (q := fun i => decide (i ≠ j)) (l := List.range n) (fun _ _ _ => rfl) ⟨j, List.mem_range.2 hj, rfl, by simp⟩
    rw [List.countP_true, List.length_range, List.countP_eq_length_filter] at this
    exact this
  omega
theorem ord_inj {n : Nat} {l : List Int} (h : Ord n l) {i j : Nat} (hi : i < n) (hj : j < n) (e : l.getD i 0 = l.getD j 0) : i = j := by
  have h1 := h.1
  rw [List.getD_eq_getElem?_getD, List.getD_eq_getElem?_getD, List.getElem?_eq_getElem (by omega), List.getElem?_eq_getElem (by omega)] at e
  have hp := List.pairwise_iff_getElem.1 h.2.1
  have e' : l[i] = l[j] := e
  rcases Nat.lt_trichotomy i j with q | q | q
  · exact absurd e' (hp i j (by omega) (by omega) q)
  · exact q
  · exact absurd e'.symm (hp j i (by omega) (by omega) q)
theorem ord_get {n : Nat} {l : List Int} (h : Ord n l) {i : Nat} (hi : i < n) : 0 ≤ l.getD i 0 ∧ l.getD i 0 < (n : Int) := h.2.2 _ (getD_mem (by rw [h.1]; exact hi))
def rho (l : List Int) (h : Int) : Int := l.getD h.toNat 0
theorem named_l1 {x : List Int} : ∀ (tl out : List Int), (∀ h ∈ tl, 0 ≤ h ∧ h < (x.length : Int)) → out.length + tl.length ≤ 2000 → oyezlaw03_RoundNamed_1_l1 x tl out = some (out ++ tl.map (rho x))
  | [], out, _, _ => by simp [oyezlaw03_RoundNamed_1_l1]
  | h :: tl, out, hh, hl => by
    simp only [List.length_cons] at hl
    obtain ⟨a1, a2⟩ := hh h (by simp)
    unfold oyezlaw03_RoundNamed_1_l1
    rw [ixD 0 _ a1 a2, ap_t (by simp; omega), named_l1 tl _ (fun z hz => hh z (by simp [hz])) (by simp; omega), List.map_cons, List.append_assoc]
    rfl
theorem named_1 {x l : List Int} (hh : ∀ h ∈ l, 0 ≤ h ∧ h < (x.length : Int)) (hl : l.length ≤ 1000) : oyezlaw03_RoundNamed_1 l x = some (l.map (rho x)) := by
  unfold oyezlaw03_RoundNamed_1
  rw [named_l1 l [] hh (by simp; omega), b1_some, List.nil_append]
theorem named_l2 {S : Nat} {L : List Int} (hL : Ord S L) {i : Nat} (hi : i < S) {l10 : List (List Int)} {row : List Int} (hrow : row.length = S) (u0 : List (List Int)) : ∀ (tl : List Int) (k : Nat) (u : List (List Int)), row.drop k = tl → u.length = S → (∀ j, j < S → (u.getD j []).length = S) → (∀ j, j < S → j ≠ (L.getD i 0).toNat → u.getD j [] = u0.getD j []) → (∀ j, j < k → (u.getD (L.getD i 0).toNat []).getD (L.getD j 0).toNat 0 = row.getD j 0) →
    ∃ u', oyezlaw03_RoundNamed_l2 L (L.getD i 0) l10 tl (k : Int) u = some (u', l10) ∧ u'.length = S ∧ (∀ j, j < S → (u'.getD j []).length = S) ∧ (∀ j, j < S → j ≠ (L.getD i 0).toNat → u'.getD j [] = u0.getD j []) ∧ (∀ j, j < S → (u'.getD (L.getD i 0).toNat []).getD (L.getD j 0).toNat 0 = row.getD j 0)
  | [], k, u, hd, h1, h2, h3, h4 => by
    have hl : row.length ≤ k := by
      have := congrArg List.length hd
      rw [List.length_drop, List.length_nil] at this; omega
    exact ⟨u, rfl, h1, h2, h3, fun j hj => h4 j (by omega)⟩
  | x :: tl, k, u, hd, h1, h2, h3, h4 => by
    obtain ⟨hk, hx, hd2⟩ := drop_cons 0 hd
    have gi := ord_get hL hi
    have gk := ord_get hL (i := k) (by omega)
    have hL1 := hL.1
    have hr := h2 (L.getD i 0).toNat (by omega)
    unfold oyezlaw03_RoundNamed_l2
    rw [ixD [] _ gi.1 (by omega), ixI _ (by omega), ixD 0 _ gk.1 (by omega), bvE, bvE]
    refine named_l2 hL hi hrow u0 tl (k + 1) _ hd2 (by rw [List.length_set]; exact h1) (fun j hj => ?_) (fun j hj hne => ?_) (fun j hj => ?_)
    · rw [getD_setI (by omega)]
      by_cases d : (L.getD i 0).toNat = j
      · rw [if_pos d, List.length_set]; exact hr
      · rw [if_neg d]; exact h2 j hj
    · rw [getD_setI (by omega), if_neg (fun q => hne q.symm)]
      exact h3 j hj hne
    · rw [getD_setI (by omega), if_pos rfl, getD_setI (by omega)]
      by_cases d : (L.getD k 0).toNat = (L.getD j 0).toNat
      · have gj := ord_get hL (i := j) (by omega)
        have := ord_inj hL (i := k) (j := j) (by omega) (by omega) (by omega)
        rw [if_pos d, ← this, hx]
      · rw [if_neg d]
        refine h4 j (Classical.byContradiction fun q => d ?_)
        rw [show j = k by omega]
theorem named_l1' (h : BtOK ws hs H st ns) {L M : List Int} (hL : Ord hs.length L) (hM : Ord H.toNat M) : ∀ (tl : List (List Int)) (k : Nat) (u v : List (List Int)), hs.drop k = tl → u.length = hs.length → v.length = hs.length → (∀ j, j < hs.length → (u.getD j []).length = hs.length) → (∀ i, i < k → v.getD (L.getD i 0).toNat [] = (hs.getD i []).map (rho M)) → (∀ i j, i < k → j < hs.length → (u.getD (L.getD i 0).toNat []).getD (L.getD j 0).toNat 0 = (ws.getD i []).getD j 0) →
    ∃ u' v', oyezlaw03_RoundNamed_l1 ws L M tl (k : Int) u v = some (u', v', M) ∧ u'.length = hs.length ∧ v'.length = hs.length ∧ (∀ j, j < hs.length → (u'.getD j []).length = hs.length) ∧ (∀ i, i < hs.length → v'.getD (L.getD i 0).toNat [] = (hs.getD i []).map (rho M)) ∧ (∀ i j, i < hs.length → j < hs.length → (u'.getD (L.getD i 0).toNat []).getD (L.getD j 0).toNat 0 = (ws.getD i []).getD j 0)
  | [], k, u, v, hd, h1, h2, h3, h4, h5 => by
    have hl : hs.length ≤ k := by
      have := congrArg List.length hd
      rw [List.length_drop, List.length_nil] at this; omega
    exact ⟨u, v, rfl, h1, h2, h3, fun i hi => h4 i (by omega), fun i j hi hj => h5 i j (by omega) hj⟩
  | x :: tl, k, u, v, hd, h1, h2, h3, h4, h5 => by
    obtain ⟨hk, hx, hd2⟩ := drop_cons [] hd
    have hw := h.hw
    have hH := h.hH
    have gk := ord_get hL hk
    have hL1 := hL.1
    have hM1 := hM.1
    have hrow := (h.row k (by omega)).1
    obtain ⟨n1, n2⟩ := h.hear x (by rw [← hx]; exact getD_mem hk)
    have en := named_1 (x := M) (l := x) (fun y hy => by have := n2 y hy; omega) (nodup_len n1 n2 hH.2)
    obtain ⟨u', e2, g1, g2, g3, g4⟩ := named_l2 hL hk (l10 := v.set (L.getD k 0).toNat (x.map (rho M))) hrow u (ws.getD k []) 0 u rfl h1 h3 (fun _ _ _ => rfl) (fun j hj => absurd hj (Nat.not_lt_zero _))
    have e2' : oyezlaw03_RoundNamed_l2 L (L.getD k 0) (v.set (L.getD k 0).toNat (x.map (rho M))) (ws.getD k []) 0 u = some (u', v.set (L.getD k 0).toNat (x.map (rho M))) := e2
    unfold oyezlaw03_RoundNamed_l1
    rw [ixI _ (by omega), ixD [] _ gk.1 (by omega), en, b1_some, bvE, ixN [] _ (by omega), e2', b2_some]
    have hne : ∀ i, i < k → (L.getD i 0).toNat ≠ (L.getD k 0).toNat := fun i hi q => by
      have gi := ord_get hL (i := i) (by omega)
      have := ord_inj hL (i := i) (j := k) (by omega) hk (by omega)
      omega
    refine named_l1' h hL hM tl (k + 1) u' _ hd2 g1 (by rw [List.length_set]; exact h2) g2 (fun i hi => ?_) (fun i j hi hj => ?_)
    · rw [getD_setI (by omega)]
      by_cases d : i = k
      · subst d
        rw [if_pos rfl, hx]
      · rw [if_neg (fun q => hne i (by omega) q.symm)]
        exact h4 i (by omega)
    · by_cases d : i = k
      · subst d
        exact g4 j hj
      · have gi := ord_get hL (i := i) (by omega)
        rw [g3 _ (by omega) (hne i (by omega))]
        exact h5 i j (by omega) hj
theorem named_l3 (h : BtOK ws hs H st ns) {M : List Int} (hM : Ord H.toNat M) : ∀ (tl : List (List Int × Int × Int)) (k : Nat) (u : List (List Int × Int × Int)), ns.drop k = tl → u.length = ns.length → (∀ i, i < ns.length → u.getD i ([], 0, 0) = if i < k then (mapN (rho M) ns).getD i ([], 0, 0) else ns.getD i ([], 0, 0)) → oyezlaw03_RoundNamed_l3 M tl (k : Int) u = some (mapN (rho M) ns)
  | [], k, u, hd, h1, h2 => by
    have hl : ns.length ≤ k := by
      have := congrArg List.length hd
      rw [List.length_drop, List.length_nil] at this; omega
    have : u = mapN (rho M) ns := getD_ext (d := ([], 0, 0)) (by rw [h1]; exact (List.length_map ..).symm) fun i hi => by rw [h2 i (by omega), if_pos (by omega)]
    rw [this]; rfl
  | x :: tl, k, u, hd, h1, h2 => by
    obtain ⟨hk, hx, hd2⟩ := drop_cons ([], 0, 0) hd
    have hH := h.hH
    have hM1 := hM.1
    obtain ⟨⟨_, n1, n2⟩, _⟩ := h.note x (by rw [← hx]; exact getD_mem hk)
    have en := named_1 (x := M) (l := x.1) (fun y hy => by have := n2 y hy; omega) (nodup_len n1 n2 hH.2)
    unfold oyezlaw03_RoundNamed_l3
    rw [en, b1_some, ixN ([], 0, 0) _ (by omega), bvE, Int.toNat_natCast, h2 k hk, if_neg (by omega)]
    refine named_l3 h hM tl (k + 1) _ hd2 (by rw [List.length_set]; exact h1) fun i hi => ?_
    rw [getD_setI (by omega)]
    by_cases d : k = i
    · subst d
      rw [if_pos rfl, if_pos (by omega), mapN_get, hx]
    · rw [if_neg d, h2 i hi]
      by_cases g : i < k
      · rw [if_pos g, if_pos (by omega)]
      · rw [if_neg g, if_neg (by omega)]
theorem like_l2 {a : List Int} : ∀ (tl : List Int) (k : Nat), a.drop k = tl → slices_Equal_int_int_l2 a tl (k : Int) = some true
  | [], _, _ => rfl
  | x :: tl, k, hd => by
    obtain ⟨hk, hx, hd2⟩ := drop_cons 0 hd
    unfold slices_Equal_int_int_l2
    rw [ixI _ hk, hx, if_neg (not_not_intro rfl)]
    exact like_l2 tl (k + 1) hd2
theorem like_eq (a : List Int) : oyezkit_Like_int a a = some true := by
  have e := like_l2 (a := a) a 0 rfl
  have e' : slices_Equal_int_int_l2 a a 0 = some true := e
  unfold oyezkit_Like_int slices_Equal_int_int
  rw [if_neg (not_not_intro rfl), e', b1_some]
theorem named_true {numbers names : List Int} (hm : (numbers.length : Int) ≤ 9223372036854775807) (hm2 : (names.length : Int) ≤ 9223372036854775807) : oyezlaw03_RoundNamed numbers names = some true := by
  unfold oyezlaw03_RoundNamed oyezkit_Hang
  obtain ⟨ws, hs, H, st, ns, a', t', e1, h, ha, _, _, _⟩ := made_ok (metal := numbers) (a := 0) (t := 0) (S := 4) (H := 4) (N := 2) ⟨by omega, by omega⟩ hm (by omega) (by omega) (by omega)
  obtain ⟨c, ps, hit, e, hc⟩ := opened_eq h
  have h5 := h.hs1
  have hH := h.hH
  have h3 := h.hn
  have hst := h.hst
  obtain ⟨L, a1, t1, eL, hL, ha1⟩ := rung_ok hm2 (a := 0) (t := 0) ⟨by omega, by omega⟩ (n := hs.length) (by omega)
  obtain ⟨M, a2, t2, eM, hM, ha2⟩ := rung_ok hm2 (t := t1) ha1 (n := H.toNat) (by omega)
  rw [show ((H.toNat : Nat) : Int) = H by omega] at eM
  have hL1 := hL.1
  obtain ⟨u, v, el, g1, g2, g3, g4, g5⟩ := named_l1' h hL hM hs 0 ws hs rfl h.hw rfl (fun j hj => (h.row j (by have := h.hw; omega)).1) (fun i hi => absurd hi (Nat.not_lt_zero _)) (fun i j hi => absurd hi (Nat.not_lt_zero _))
  have el' : oyezlaw03_RoundNamed_l1 ws L M hs 0 ws hs = some (u, v, M) := el
  have e3 := named_l3 h hM ns 0 ns rfl rfl (fun i hi => by rw [if_neg (by omega)])
  have e3' : oyezlaw03_RoundNamed_l3 M ns 0 ns = some (mapN (rho M) ns) := e3
  have gs := ord_get hL (i := st.toNat) (by omega)
  have R : Ren (fun i => (L.getD i 0).toNat) (rho M) ws hs H st ns u v (L.getD st.toNat 0) (mapN (rho M) ns) := by
    refine ⟨fun i hi => by have := ord_get hL hi; omega, fun i j hi hj q => ?_, fun j hj => ord_all hL hj, fun y h1 h2 => ?_, fun y z h1 h2 h4 h5 q => ?_, g2, g1, g3, g5, g4, by omega, rfl⟩
    · have q1 := ord_get hL hi
      have q2 := ord_get hL hj
      exact ord_inj hL hi hj (by omega)
    · have := ord_get hM (i := y.toNat) (by omega)
      unfold rho; omega
    · have := ord_inj hM (i := y.toNat) (j := z.toNat) (by omega) (by omega) q
      omega
  have h' := R.ok h
  obtain ⟨c', ps', hit', e', hc'⟩ := opened_eq h'
  have X : RenC (fun i => (L.getD i 0).toNat) (rho M) ws hs H st ns u v (L.getD st.toNat 0) (mapN (rho M) ns) c ps hit c' ps' hit' := ⟨R, h, hc, h', hc', fun i k hi hk => R.walk h hc.fin (opened_wq h e) (by rw [← g2]; exact hc'.fin) (opened_wq h' e') hi hk⟩
  obtain ⟨D, hD⟩ := decider (Can c ns hit hs st (bdL ns 200))
  obtain ⟨D', hD'⟩ := decider (Can c' (mapN (rho M) ns) hit' v (L.getD st.toNat 0) (bdL (mapN (rho M) ns) 200))
  have hDD : ∀ x y, Cor (rho M) ps ps' x y → D x = D' y := fun x y q => by
    rw [Bool.eq_iff_iff, hD, hD', X.can q]
  obtain ⟨E, hE⟩ := minT_fun (c := c) (ns := ns) (hit := hit) (hs := hs) (st := st) (bd := bdL ns 200)
  obtain ⟨E', hE'⟩ := minT_fun (c := c') (ns := mapN (rho M) ns) (hit := hit') (hs := v) (st := L.getD st.toNat 0) (bd := bdL (mapN (rho M) ns) 200)
  have hEE : ∀ x y, Cor (rho M) ps ps' x y → E x = E' y := fun x y q => by
    have key : ∀ t, E x = some t ↔ E' y = some t := fun t => by rw [hE, hE', X.minT q]
    cases ex : E x with
    | none =>
      cases ey : E' y with
      | none => rfl
      | some t => rw [(key t).2 ey] at ex; cases ex
    | some t => exact ((key t).1 ex).symm
  have hlen := X.nlen
  -- the best round
  have hbest : ∃ l1 l2 t b, round_Best ws hs H st ns = some (l1, t, b) ∧ round_Best u v H (L.getD st.toNat 0) (mapN (rho M) ns) = some (l2, t, b) := by
    rcases Best_eq h e hc with ⟨q1, q2⟩ | ⟨l, t, q1, q2, q3⟩
    · rcases Best_eq h' e' hc' with ⟨z1, _⟩ | ⟨l', t', z1, z2, z3⟩
      · exact ⟨_, _, _, _, q1, z1⟩
      · have z4 := (X.minT cor_all).1 (Ser.min h' hc' z2 z3)
        exact absurd z4.1 (rnd_none h hc q2 t')
    · have q4 := (X.minT cor_all).2 (Ser.min h hc q2 q3)
      rcases Best_eq h' e' hc' with ⟨z1, z2⟩ | ⟨l', t', z1, z2, z3⟩
      · exact absurd q4.1 (rnd_none h' hc' z2 t)
      · have := q4.unique (Ser.min h' hc' z2 z3)
        subst this
        exact ⟨_, _, _, _, q1, z1⟩
  obtain ⟨l14, l15, n5, n6, eb1, eb2⟩ := hbest
  -- the notices
  have hmost : round_Most u v H (L.getD st.toNat 0) (mapN (rho M) ns) = round_Most ws hs H st ns := by
    rw [Most_F h e hc hD, Most_F h' e' hc' hD', hlen]
    congr 2
    congr 1
    funext l
    exact (hDD _ _ (cor_of X l)).symm
  obtain ⟨mo, emo, pmo⟩ := Most_eq h e hc hD
  -- the pairs
  have hexc : ∃ l18 l19 b, round_Excludes ws hs H st ns = some (l18, b) ∧ round_Excludes u v H (L.getD st.toNat 0) (mapN (rho M) ns) = some (l19, b) ∧ l18.length = l19.length := by
    have hx : round_Excludes ws hs H st ns = b2 (round_Before ws hs H st ns 200) fun l n => some (l, n) := rfl
    have hx' : round_Excludes u v H (L.getD st.toNat 0) (mapN (rho M) ns) = b2 (round_Before u v H (L.getD st.toNat 0) (mapN (rho M) ns) 200) fun l n => some (l, n) := rfl
    have hall := hDD _ _ (cor_all (r := rho M) (ps := ps) (ps' := ps'))
    rw [hx, hx']
    rcases Before_eq h e hc (m := 200) (by omega) hD with ⟨q1, q2⟩ | ⟨q1, T, hT, hTD, hmin, q2⟩
    · rcases Before_eq h' e' hc' (m := 200) (by omega) hD' with ⟨z1, z2⟩ | ⟨z1, _⟩
      · rw [q2, z2]; exact ⟨_, _, _, rfl, rfl, rfl⟩
      · rw [hall, z1] at q1; cases q1
    · rcases Before_eq h' e' hc' (m := 200) (by omega) hD' with ⟨z1, z2⟩ | ⟨z1, T', hT', hTD', hmin', z2⟩
      · rw [hall, z1] at q1; cases q1
      · rw [q2, z2]
        refine ⟨_, _, _, rfl, rfl, ?_⟩
        rw [selP_len, selP_len]
        obtain ⟨U', k1, k2, k3⟩ := cor_to X hT
        obtain ⟨U, j1, j2, j3⟩ := cor_from X hT'
        have a1 := hmin' U' k1 (by rw [← hDD _ _ k3]; exact hTD)
        have a2 := hmin U j1 (by rw [hDD _ _ j3]; exact hTD')
        rcases a1 with a1 | a1 <;> rcases a2 with a2 | a2 <;> omega
  obtain ⟨l18, l19, n11, ex1, ex2, hxl⟩ := hexc
  -- two criers
  have htwo : ∃ l20 l21 t b, round_Two ws hs H st ns = some (l20, t, b) ∧ round_Two u v H (L.getD st.toNat 0) (mapN (rho M) ns) = some (l21, t, b) := by
    obtain ⟨o, b, p1, p2⟩ := Two_eq h e hc hE
    obtain ⟨o', b', p1', p2'⟩ := Two_eq h' e' hc' hE'
    rw [hlen] at p1'
    have hV : (fun n => valW E' ps' (whoL ns.length n)) = fun n => valW E ps (whoL ns.length n) := by
      funext n
      unfold valW
      rw [hEE _ _ (cor_of X (toI (IL (whoL ns.length n) 0))), hEE _ _ (cor_of X (toI (IL (whoL ns.length n) 1)))]
    rw [hV] at p1'
    have := p1.best p1'
    subst this
    rw [p2, p2']
    by_cases d : b = -1
    · rw [if_pos d, if_pos d]; exact ⟨_, _, _, _, rfl, rfl⟩
    · rw [if_neg d, if_neg d]; exact ⟨_, _, _, _, rfl, rfl⟩
  obtain ⟨l20, l21, n13, n14, et1, et2⟩ := htwo
  have hx10 : ∀ {β : Type} (f : Int → Option β), ix L st f = f (L.getD st.toNat 0) := fun f => ixD 0 f hst.1 (by omega)
  rw [b3_some, e1, b7_some, b3_some, eL, b3_some, eM, b3_some, Own_eq h, b5_some, el', b3_some, hx10, e3', b1_some, eb1, b3_some, eb2, b3_some, hmost, emo, b2_some, b2_some, ex1, b2_some, ex2, b2_some, et1, b3_some, et2, b3_some, if_pos rfl, if_pos rfl, if_pos rfl, if_pos rfl, like_eq mo, b1_some, if_pos rfl, if_pos rfl, if_pos (by omega), if_pos rfl, if_pos rfl, awake_eq, b1_some]
end
end Go.Proofs.Ytfmapnhfamoecaa.Rd
