/- Layer 1: houses and stands as lists, stands that cannot be left out, stands that are tried; HearWalled; in plain Lean. -/
import Derived.Test.YtejkgppikpkkpaaGreatZCHW
import Derived.Test.YtejkgppikpkkpaaGreatZCHF
namespace Go.Proofs.YtejkgppikpkkpaaGreat
open Go.PL Go.Hear
theorem housesL_l1 : ∀ (l : List Int) (k : Int) (acc : List Int), acc.length + l.length ≤ 100000 → oyezlaw01_houses_l1 l k acc = some (acc ++ kindL 1 l k)
  | [], k, acc, _ => by simp [oyezlaw01_houses_l1, kindL]
  | x :: l, k, acc, h => by
    simp only [List.length_cons] at h
    unfold oyezlaw01_houses_l1 kindL
    by_cases hx : x = 1
    · rw [if_pos hx, if_pos hx, ap_t (by simp; omega), housesL_l1 l (k + 1) (acc ++ [k]) (by simp; omega)]
      simp
    · rw [if_neg hx, if_neg hx, housesL_l1 l (k + 1) acc (by omega)]
theorem housesL_eq {wide : Int} {ps : List Int} (h : ps.length ≤ 1000) : oyezlaw01_houses wide ps = some (kindL 1 ps 0) := by
  unfold oyezlaw01_houses
  rw [housesL_l1 ps 0 [] (by simp; omega), b1_some]; rfl
theorem kindL_lt {kind : Int} : ∀ (l : List Int) (k : Int), (kindL kind l k).Pairwise (· < ·)
  | [], _ => List.Pairwise.nil
  | y :: l, k => by
    have ih := kindL_lt (kind := kind) l (k + 1)
    unfold kindL
    by_cases hy : y = kind
    · rw [if_pos hy, List.pairwise_cons]
      refine ⟨fun x hx => ?_, ih⟩
      have := (kindL_mem l (k + 1) x).1 hx
      omega
    · rw [if_neg hy]; exact ih
theorem kindL_nodup {kind : Int} (l : List Int) (k : Int) : (kindL kind l k).Nodup := (kindL_lt l k).imp fun h => by omega
theorem kindL_count : ∀ (l : List Int) (k : Int), (kindL 1 l k).length = cntH l
  | [], _ => rfl
  | y :: l, k => by
    have ih := kindL_count l (k + 1)
    unfold kindL
    unfold cntH at ih ⊢
    by_cases hy : y = 1
    · rw [if_pos hy, List.length_cons, ih, List.filter_cons_of_pos (by simpa using hy)]; rfl
    · rw [if_neg hy, ih, List.filter_cons_of_neg (by simpa using hy)]
theorem kind0 {kind : Int} {ps : List Int} {x : Int} : x ∈ kindL kind ps 0 ↔ (0 ≤ x ∧ x < ps.length) ∧ ps.getD x.toNat 0 = kind := by
  rw [kindL_mem, Int.sub_zero, Int.zero_add]
  constructor
  · rintro ⟨a, b, c⟩; exact ⟨⟨a, b⟩, c⟩
  · rintro ⟨⟨a, b⟩, c⟩; exact ⟨a, b, c⟩
theorem isE_is {ps : List Int} {p kind : Int} (h : (0 ≤ p ∧ p < ps.length) ∧ ps.getD p.toNat 0 = kind) : isE ps p kind = 0 := by
  unfold isE
  rw [if_neg (not_not_intro ⟨h.1.1, by omega⟩), if_neg (not_not_intro h.2)]
section
variable {wide : Int} {ps : List Int} {w v : Int}
theorem airE_of (hc : chk wide ps = 0) (hw : okW w) (hv : 1 ≤ v ∧ v ≤ 40) : airE wide ps w v = 0 := by
  unfold airE chkA
  rw [if_neg (not_not_intro hc), if_neg]
  rintro (h | h)
  · exact h hw
  · exact h hv
/-- Some houses of a town, each once. -/
structure Hs (wide : Int) (ps : List Int) (w v : Int) (H : List Int) : Prop where
  ck : chk wide ps = 0
  ww : okW w
  vv : 1 ≤ v ∧ v ≤ 40
  is : ∀ x ∈ H, (0 ≤ x ∧ x < ps.length) ∧ ps.getD x.toNat 0 = 1
  nd : H.Nodup
theorem Hs.air {H : List Int} (h : Hs wide ps w v H) : airE wide ps w v = 0 := airE_of h.ck h.ww h.vv
theorem Hs.ask {H : List Int} (h : Hs wide ps w v H) : askE wide ps w v H = 0 := askE_iff.2 ⟨h.air, fun x hx => isE_is (h.is x hx), h.nd⟩
theorem Hs.open {H : List Int} (h : Hs wide ps w v H) : openE wide ps w = 0 := openE_of h.ck h.ww
theorem Hs.n30 {H : List Int} (h : Hs wide ps w v H) : ps.length ≤ 30 := (openE_ok h.open).2.1.2
theorem Hs.all (hc : chk wide ps = 0) (hw : okW w) (hv : 1 ≤ v ∧ v ≤ 40) : Hs wide ps w v (kindL 1 ps 0) := ⟨hc, hw, hv, fun _ hx => kind0.1 hx, kindL_nodup ps 0⟩
theorem Hs.sub {H H' : List Int} (h : Hs wide ps w v H) (hs : ∀ x ∈ H', x ∈ H) (hn : H'.Nodup) : Hs wide ps w v H' := ⟨h.ck, h.ww, h.vv, fun x hx => h.is x (hs x hx), hn⟩
theorem Hs.len {H : List Int} (h : Hs wide ps w v H) : H.length ≤ 10 := by
  have h1 : H.length ≤ (kindL 1 ps 0).length := h.nd.length_le_of_subset fun x hx => kind0.2 (h.is x hx)
  rw [kindL_count] at h1
  have := (openE_ok h.open).2.2.2.2.2
  omega
theorem Hs.voice {H : List Int} (h : Hs wide ps w v H) {v' : Int} (hv : 1 ≤ v' ∧ v' ≤ 40) : Hs wide ps w v' H := ⟨h.ck, h.ww, hv, h.is, h.nd⟩
/-- The stands that a house hears. -/
def stL (wide : Int) (ps : List Int) (w v : Int) (h : Int) : List Int := lstN (fun s => hrB wide ps w v s h.toNat) ps.length
theorem rowH_get (hn : ps.length ≤ 30) {s : Nat} (hs : s < 30) (h : Int) : (rowH wide ps w v h).getD s false = (decide (s < ps.length) && hrB wide ps w v s h.toNat) := row_get hn hs h.toNat
theorem rowH_true (hn : ps.length ≤ 30) {s : Nat} (hs : s < 30) {h : Int} : (rowH wide ps w v h).getD s false = true ↔ s < ps.length ∧ hrB wide ps w v s h.toNat = true := by
  rw [rowH_get hn hs, Bool.and_eq_true, decide_eq_true_iff]
/-- A house that hears no stand. -/
theorem deaf_iff (hn : ps.length ≤ 30) {H : List Int} : List.replicate 30 false ∈ askR wide ps w v H ↔ ∃ h ∈ H, stL wide ps w v h = [] := by
  rw [askR_eq, List.mem_map]
  constructor
  · rintro ⟨h, h1, h2⟩; exact ⟨h, h1, (row_false hn).1 h2⟩
  · rintro ⟨h, h1, h2⟩; exact ⟨h, h1, (row_false hn).2 h2⟩
theorem hears_iff {h : Int} {s : Int} : s ∈ stL wide ps w v h ↔ (0 ≤ s ∧ s < ps.length) ∧ hrB wide ps w v s.toNat h.toNat = true := lstN_mem
theorem srvN_all {H : List Int} (hH : ∀ x ∈ H, 0 ≤ x ∧ x < ps.length) {S : List Int} : srvN wide ps w v H S = H.length ↔ ∀ h ∈ H, ∃ s ∈ S, hrB wide ps w v s.toNat h.toNat = true := by
  unfold srvN
  rw [List.countP_eq_length]
  constructor
  · intro h x hx
    have := h x hx
    rw [List.any_eq_true] at this
    obtain ⟨s, h1, h2⟩ := this
    rw [Bool.and_eq_true] at h2
    exact ⟨s, h1, h2.2⟩
  · intro h x hx
    obtain ⟨s, h1, h2⟩ := h x hx
    rw [List.any_eq_true]
    have := hH x hx
    exact ⟨s, h1, by rw [Bool.and_eq_true, decide_eq_true_iff]; exact ⟨⟨by omega, this.1⟩, h2⟩⟩
theorem served_eq' {H : List Int} (hH : Hs wide ps w v H) {S : List Int} (hS : ∀ s ∈ S, (0 ≤ s ∧ s < ps.length) ∧ ps.getD s.toNat 0 = 0) : oyezlaw01_served wide ps w v H S = some ((srvN wide ps w v H S : Int), true) :=
  servedL_eq (by have := hH.n30; omega) hH.air (by have := hH.len; omega) fun s hs => isE_is (hS s hs)
end
end Go.Proofs.YtejkgppikpkkpaaGreat
