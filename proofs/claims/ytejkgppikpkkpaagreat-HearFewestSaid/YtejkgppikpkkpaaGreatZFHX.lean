/- Layer 1: houses and stands as lists, stands that cannot be left out, stands that are tried; HearWalled; in plain Lean. -/
import Derived.Test.YtejkgppikpkkpaaGreatZFHW
import Derived.Test.YtejkgppikpkkpaaGreatZFHF
namespace Go.Proofs.YtejkgppikpkkpaaGreat
open Go.PL Go.Hear
theorem kindL_lt {kind : Int} : ∀ (l : List Int) (k : Int), (kindL kind l k).Pairwise (· < ·)
  | [], _ => List.Pairwise.nil
  | y :: l, k => by
    have ih := kindL_lt (kind := kind) l (k + 1)
    unfold kindL
    by_cases hy : y = kind
    · rw [if_pos hy, List.pairwise_cons]
      refine ⟨fun x hx => ?_, ih⟩
      have := (kindL_mem l (k + 1) x).1 hx
      omega
    · rw [if_neg hy]; exact ih
theorem kindL_nodup {kind : Int} (l : List Int) (k : Int) : (kindL kind l k).Nodup := (kindL_lt l k).imp fun h => by omega
theorem kindL_count : ∀ (l : List Int) (k : Int), (kindL 1 l k).length = cntH l
  | [], _ => rfl
  | y :: l, k => by
    have ih := kindL_count l (k + 1)
    unfold kindL
    unfold cntH at ih ⊢
    by_cases hy : y = 1
    · rw [if_pos hy, List.length_cons, ih, List.filter_cons_of_pos (by simpa using hy)]; rfl
    · rw [if_neg hy, ih, List.filter_cons_of_neg (by simpa using hy)]
theorem kind0 {kind : Int} {ps : List Int} {x : Int} : x ∈ kindL kind ps 0 ↔ (0 ≤ x ∧ x < ps.length) ∧ ps.getD x.toNat 0 = kind := by
  rw [kindL_mem, Int.sub_zero, Int.zero_add]
  constructor
  · rintro ⟨a, b, c⟩; exact ⟨⟨a, b⟩, c⟩
  · rintro ⟨⟨a, b⟩, c⟩; exact ⟨a, b, c⟩
theorem isE_is {ps : List Int} {p kind : Int} (h : (0 ≤ p ∧ p < ps.length) ∧ ps.getD p.toNat 0 = kind) : isE ps p kind = 0 := by
  unfold isE
  rw [if_neg (not_not_intro ⟨h.1.1, by omega⟩), if_neg (not_not_intro h.2)]
section
variable {wide : Int} {ps : List Int} {w v : Int}
theorem airE_of (hc : chk wide ps = 0) (hw : okW w) (hv : 1 ≤ v ∧ v ≤ 40) : airE wide ps w v = 0 := by
  unfold airE chkA
  rw [if_neg (not_not_intro hc), if_neg]
  rintro (h | h)
  · exact h hw
  · exact h hv
/-- Some houses of a town, each once. -/
structure Hs (wide : Int) (ps : List Int) (w v : Int) (H : List Int) : Prop where
  ck : chk wide ps = 0
  ww : okW w
  vv : 1 ≤ v ∧ v ≤ 40
  is : ∀ x ∈ H, (0 ≤ x ∧ x < ps.length) ∧ ps.getD x.toNat 0 = 1
  nd : H.Nodup
theorem Hs.air {H : List Int} (h : Hs wide ps w v H) : airE wide ps w v = 0 := airE_of h.ck h.ww h.vv
theorem Hs.ask {H : List Int} (h : Hs wide ps w v H) : askE wide ps w v H = 0 := askE_iff.2 ⟨h.air, fun x hx => isE_is (h.is x hx), h.nd⟩
theorem Hs.open {H : List Int} (h : Hs wide ps w v H) : openE wide ps w = 0 := openE_of h.ck h.ww
theorem Hs.n30 {H : List Int} (h : Hs wide ps w v H) : ps.length ≤ 30 := (openE_ok h.open).2.1.2
theorem Hs.all (hc : chk wide ps = 0) (hw : okW w) (hv : 1 ≤ v ∧ v ≤ 40) : Hs wide ps w v (kindL 1 ps 0) := ⟨hc, hw, hv, fun _ hx => kind0.1 hx, kindL_nodup ps 0⟩
theorem Hs.sub {H H' : List Int} (h : Hs wide ps w v H) (hs : ∀ x ∈ H', x ∈ H) (hn : H'.Nodup) : Hs wide ps w v H' := ⟨h.ck, h.ww, h.vv, fun x hx => h.is x (hs x hx), hn⟩
theorem Hs.len {H : List Int} (h : Hs wide ps w v H) : H.length ≤ 10 := by
  have h1 : H.length ≤ (kindL 1 ps 0).length := h.nd.length_le_of_subset fun x hx => kind0.2 (h.is x hx)
  rw [kindL_count] at h1
  have := (openE_ok h.open).2.2.2.2.2
  omega
theorem Hs.voice {H : List Int} (h : Hs wide ps w v H) {v' : Int} (hv : 1 ≤ v' ∧ v' ≤ 40) : Hs wide ps w v' H := ⟨h.ck, h.ww, hv, h.is, h.nd⟩
theorem lstN_lt (P : Nat → Bool) (n : Nat) : (lstN P n).Pairwise (· < ·) := by
  unfold lstN
  rw [List.pairwise_map]
  exact (List.pairwise_lt_range.filter P).imp fun h => by simp only [Int.ofNat_eq_natCast]; omega
theorem lst_one {l : List Int} {x : Int} (h : l.Pairwise (· < ·)) : l = [x] ↔ x ∈ l ∧ ∀ y ∈ l, y = x := by
  constructor
  · rintro rfl; exact ⟨List.mem_singleton.2 rfl, fun y hy => List.mem_singleton.1 hy⟩
  · rintro ⟨h1, h2⟩
    match l, h, h1, h2 with
    | [], _, h1, _ => cases h1
    | [y], _, _, h2 => rw [h2 y (List.mem_singleton.2 rfl)]
    | y :: z :: l, h, _, h2 =>
      have := (List.pairwise_cons.1 h).1 z (List.mem_cons_self ..)
      have := h2 y (List.mem_cons_self ..)
      have := h2 z (List.mem_cons_of_mem _ (List.mem_cons_self ..))
      omega
/-- The stands that a house hears. -/
def stL (wide : Int) (ps : List Int) (w v : Int) (h : Int) : List Int := lstN (fun s => hrB wide ps w v s h.toNat) ps.length
theorem rowH_get (hn : ps.length ≤ 30) {s : Nat} (hs : s < 30) (h : Int) : (rowH wide ps w v h).getD s false = (decide (s < ps.length) && hrB wide ps w v s h.toNat) := row_get hn hs h.toNat
theorem rowH_true (hn : ps.length ≤ 30) {s : Nat} (hs : s < 30) {h : Int} : (rowH wide ps w v h).getD s false = true ↔ s < ps.length ∧ hrB wide ps w v s h.toNat = true := by
  rw [rowH_get hn hs, Bool.and_eq_true, decide_eq_true_iff]
theorem earsH_eq (hn : ps.length ≤ 30) (h : Int) : hear_ears_list (rowH wide ps w v h) = some (stL wide ps w v h) := by
  unfold rowH rowP stL
  rw [earsList_eq, lst_cut hn]
theorem hr_street {s p : Nat} (h : hrB wide ps w v s p = true) : ps.getD s 0 = 0 := by
  unfold hrB at h
  rw [Bool.and_eq_true, decide_eq_true_iff] at h
  exact h.1
/-- A house that hears no stand. -/
theorem deaf_iff (hn : ps.length ≤ 30) {H : List Int} : List.replicate 30 false ∈ askR wide ps w v H ↔ ∃ h ∈ H, stL wide ps w v h = [] := by
  rw [askR_eq, List.mem_map]
  constructor
  · rintro ⟨h, h1, h2⟩; exact ⟨h, h1, (row_false hn).1 h2⟩
  · rintro ⟨h, h1, h2⟩; exact ⟨h, h1, (row_false hn).2 h2⟩
theorem hears_iff {h : Int} {s : Int} : s ∈ stL wide ps w v h ↔ (0 ≤ s ∧ s < ps.length) ∧ hrB wide ps w v s.toNat h.toNat = true := lstN_mem
def mustL (wide : Int) (ps : List Int) (w v : Int) (H : List Int) : List Int := H.filterMap fun h => if (stL wide ps w v h).length = 1 then some ((stL wide ps w v h).getD 0 0) else none
theorem mem_mustL {H : List Int} {s : Int} : s ∈ mustL wide ps w v H ↔ ∃ h ∈ H, stL wide ps w v h = [s] := by
  unfold mustL
  rw [List.mem_filterMap]
  constructor
  · rintro ⟨h, h1, h2⟩
    refine ⟨h, h1, ?_⟩
    split at h2
    · rename_i h3
      match hl : stL wide ps w v h, h3 with
      | [x], _ =>
        rw [hl] at h2
        have : x = s := Option.some.inj h2
        rw [this]
    · cases h2
  · rintro ⟨h, h1, h2⟩
    exact ⟨h, h1, by rw [h2]; rfl⟩
theorem must_l1 (hn : ps.length ≤ 30) : ∀ (H acc : List Int), acc.length + H.length ≤ 100000 → hear_Must_l1 (askR wide ps w v H) acc = some (acc ++ mustL wide ps w v H)
  | [], acc, _ => by simp [askR, hear_Must_l1, mustL]
  | h :: H, acc, hl => by
    rw [List.length_cons] at hl
    have e : askR wide ps w v (h :: H) = rowH wide ps w v h :: askR wide ps w v H := rfl
    rw [e]
    unfold hear_Must_l1
    rw [earsH_eq hn, b1_some]
    by_cases hc : (stL wide ps w v h).length = 1
    · have em : mustL wide ps w v (h :: H) = (stL wide ps w v h).getD 0 0 :: mustL wide ps w v H := by
        unfold mustL
        rw [List.filterMap_cons_some (by rw [if_pos hc])]
      have g0 : ix (stL wide ps w v h) 0 (fun x2 => ap acc [x2] fun out3 => hear_Must_l1 (askR wide ps w v H) out3) = ap acc [(stL wide ps w v h).getD 0 0] fun out3 => hear_Must_l1 (askR wide ps w v H) out3 := ixI (i := 0) _ (by omega)
      rw [if_pos (by omega), g0, ap_t (by simp; omega), must_l1 hn H _ (by simp; omega), em, List.append_assoc]; rfl
    · have em : mustL wide ps w v (h :: H) = mustL wide ps w v H := by
        unfold mustL
        rw [List.filterMap_cons_none (by rw [if_neg hc])]
      rw [if_neg (by omega), must_l1 hn H _ (by omega), em]
theorem mustL_len (H : List Int) : (mustL wide ps w v H).length ≤ H.length := List.length_filterMap_le ..
theorem Must_eq {H : List Int} (hH : Hs wide ps w v H) : ((∃ h ∈ H, stL wide ps w v h = []) ∧ hear_Must wide ps w v H = some ([], 6)) ∨ ((∀ h ∈ H, stL wide ps w v h ≠ []) ∧ ∃ M, hear_Must wide ps w v H = some (M, 0) ∧ (∃ R, R.Perm (mustL wide ps w v H) ∧ R.Pairwise (· ≤ ·) ∧ M = cptI R) ∧ ∀ s, s ∈ M ↔ ∃ h ∈ H, stL wide ps w v h = [s]) := by
  have hn := hH.n30
  have hl := hH.len
  have hml := mustL_len (wide := wide) (ps := ps) (w := w) (v := v) H
  unfold hear_Must
  rw [asked_eq (by omega) H (by omega), hH.ask, b3_some, if_neg (fun h => h rfl), gd_t (decide_eq_true rfl), if_pos rfl, deafQ_eq, b1_some]
  by_cases hd : ∃ h ∈ H, stL wide ps w v h = []
  · exact .inl ⟨hd, by rw [if_pos (decide_eq_true ((deaf_iff hn).2 hd))]⟩
  · refine .inr ⟨fun h hh he => hd ⟨h, hh, he⟩, ?_⟩
    obtain ⟨R, h1, h2, h3⟩ := sort_eq (s := mustL wide ps w v H) (by omega)
    have hRl := h2.length_eq
    refine ⟨cptI R, ?_, ⟨R, h2, h3, rfl⟩, fun s => ?_⟩
    · rw [if_neg (by rw [decide_eq_true_iff]; exact fun h => hd ((deaf_iff hn).1 h)), must_l1 hn H [] (by simp; omega), b1_some, List.nil_append, h1, b1_some, compactI_eq (by omega), b1_some]
    · rw [mem_cptI, h2.mem_iff, mem_mustL]
end
end Go.Proofs.YtejkgppikpkkpaaGreat
