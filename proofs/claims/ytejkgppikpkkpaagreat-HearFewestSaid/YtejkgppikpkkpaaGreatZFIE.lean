/- Layer 1: HearFewest; in plain Lean. -/
import Derived.Test.YtejkgppikpkkpaaGreatZFID
namespace Go.Proofs.YtejkgppikpkkpaaGreat
open Go.PL Go.Hear
theorem inc_lt : ∀ {a : Nat} {L : List Nat}, L.Pairwise (· < ·) → (∀ x ∈ L, a ≤ x ∧ x < 30) → Inc a L
  | _, [], _, _ => trivial
  | a, x :: L, h, hr => by
    have p := List.pairwise_cons.1 h
    exact ⟨hr x (List.mem_cons_self ..), inc_lt p.2 fun y hy => ⟨p.1 y hy, (hr y (List.mem_cons_of_mem _ hy)).2⟩⟩
theorem lt_sub {n : Nat} (hn : n ≤ 30) {L : List Nat} (h : L.Pairwise (· < ·)) (hr : ∀ x ∈ L, x < n) : L.Sublist (List.range n) :=
  inc_sub List.pairwise_lt_range (inc_lt (a := 0) h fun x hx => ⟨Nat.zero_le _, by have := hr x hx; omega⟩) fun x hx => List.mem_range.2 (hr x hx)
section
variable {wide : Int} {ps : List Int} {w v : Int}
theorem apart_l3 (hn : ps.length ≤ 30) {SN A : List Nat} {P : List Nat → Prop} (hP : ∀ x : List Nat, P x ↔ (x.map Int.ofNat).Pairwise fun a c => comB (rowH wide ps w v a) (rowH wide ps w v c) = false) (hS : ∀ s ∈ SN, s < ps.length) (hlen : SN.length ≤ 12) (hs : SN.Pairwise (· < ·)) (hA : P A) (hAs : A.Sublist SN) (hmax : ∀ x : List Nat, x.Sublist SN → P x → x.length ≤ A.length ∧ (x.length = A.length → lexLe A x)) :
    ∀ (m fu : Nat), A.length ≤ m → m ≤ 12 → m < fu → oyezref01_Apart_l3 (earR wide ps w v) (SN.map Int.ofNat) fu (m : Int) = some (A.map Int.ofNat, 0)
  | _, 0, _, _, h => absurd h (Nat.not_lt_zero _)
  | 0, fu + 1, h, _, _ => by
    have : A = [] := List.length_eq_zero_iff.1 (by omega)
    subst this
    unfold oyezref01_Apart_l3 oyezref01_Apart_j2
    rw [if_neg (by decide)]; rfl
  | m + 1, fu + 1, h, hm, hf => by
    have hQ : ∀ x ∈ subs SN (m + 1), (∀ s ∈ x, s < ps.length) ∧ x.length ≤ 1000 := fun x hx => by
      obtain ⟨h1, h2⟩ := mem_subs.1 hx
      exact ⟨fun s hs' => hS s (h1.subset hs'), by omega⟩
    obtain ⟨r1, r2⟩ := rap_l5 (wide := wide) (w := w) (v := v) hn (many := ((m + 1 : Nat) : Int)) (rec3 := oyezref01_Apart_l3 (earR wide ps w v) (SN.map Int.ofNat) fu) (A := A) hP (subs SN (m + 1)) hQ
    unfold oyezref01_Apart_l3
    rw [if_pos (by omega), lists_eq FU (m + 1) SN (by unfold FU; omega) (by omega) hlen, b1_some]
    by_cases hc : A.length = m + 1
    · exact r2 hA (fun x hx hp => by
        obtain ⟨h1, h2⟩ := mem_subs.1 hx
        exact ⟨by omega, (hmax x h1 hp).2 (by omega)⟩) (subs_sorted hs) (mem_subs.2 ⟨hAs, hc⟩)
    · rw [r1 fun x hx hp => by
        obtain ⟨h1, h2⟩ := mem_subs.1 hx
        have := (hmax x h1 hp).1
        omega]
      unfold oyezref01_Apart_j4
      rw [gd_t (r64_small (by omega)), show ((m + 1 : Nat) : Int) - 1 = (m : Int) by omega]
      exact apart_l3 hn hP hS hlen hs hA hAs hmax m fu (by omega) (by omega) (by omega)
theorem apart_same {H : List Int} (hH : Hs wide ps w v H) : ∃ l e, hear_Apart wide ps w v H = some (l, e) ∧ oyezref01_Apart wide ps w v H = some (l, e) := by
  have hn := hH.n30
  have hHl := hH.len
  obtain ⟨own, o1, o2, o3, _⟩ := Apart_eq (by omega) (by omega) hH.ask
  refine ⟨_, 0, o3, ?_⟩
  have hon : own.Nodup := o1.nodup_iff.2 hH.nd
  have hlt : own.Pairwise (· < ·) := (o2.and hon).imp fun h => by have := h.1; have := h.2; omega
  generalize hSN : (List.range ps.length).filter (fun s : Nat => decide ((s : Int) ∈ H)) = SN
  have hSm : ∀ s, s ∈ SN ↔ s < ps.length ∧ (s : Int) ∈ H := fun s => by
    rw [← hSN, List.mem_filter, List.mem_range, decide_eq_true_iff]
  have hSs : SN.Pairwise (· < ·) := by rw [← hSN]; exact List.pairwise_lt_range.filter _
  have hso : own = SN.map Int.ofNat := lt_uniq hlt (by
    rw [List.pairwise_map]; exact hSs.imp fun h => by simp only [Int.ofNat_eq_natCast]; omega) fun x => by
    rw [o1.mem_iff, List.mem_map]
    constructor
    · intro hx
      have := (hH.is x hx).1
      exact ⟨x.toNat, (hSm _).2 ⟨by omega, by rw [Int.toNat_of_nonneg this.1]; exact hx⟩, Int.toNat_of_nonneg this.1⟩
    · rintro ⟨s, hs, rfl⟩
      exact ((hSm s).1 hs).2
  have hsl : SN.length = own.length := by rw [hso, List.length_map]
  have hol := o1.length_eq
  have hg : ∀ i, i < SN.length → own.getD i 0 = ((SN.getD i 0 : Nat) : Int) := fun i hi => by
    rw [hso, List.getD_eq_getElem?_getD, List.getElem?_map, List.getD_eq_getElem?_getD, List.getElem?_eq_getElem hi]; rfl
  have hSr : SN = (List.range SN.length).map fun i => SN.getD i 0 := by
    apply List.ext_getElem (by simp)
    intro i h1 h2
    rw [List.getElem_map, List.getElem_range, List.getD_eq_getElem?_getD, List.getElem?_eq_getElem h1]; rfl
  obtain ⟨g1, g2⟩ := lngK_ok (fun i j => comB (rowH wide ps w v (own.getD i 0)) (rowH wide ps w v (own.getD j 0))) own.length
  have g3 := fun L => lngK_first (com := fun i j => comB (rowH wide ps w v (own.getD i 0)) (rowH wide ps w v (own.getD j 0))) own.length (L := L)
  have hap : apV (rowH wide ps w v) own = (lngK (fun i j => comB (rowH wide ps w v (own.getD i 0)) (rowH wide ps w v (own.getD j 0))) own.length).map fun i => own.getD i 0 := rfl
  rw [hap]
  generalize lngK (fun i j => comB (rowH wide ps w v (own.getD i 0)) (rowH wide ps w v (own.getD j 0))) own.length = G at g1 g2 g3
  obtain ⟨⟨q1, q2⟩, _, q3⟩ := gd_iff.1 g1
  have hmapG : ∀ y : List Nat, (∀ x ∈ y, x < SN.length) → (y.map fun i => SN.getD i 0).map Int.ofNat = y.map fun i => own.getD i 0 := fun y hy => by
    rw [List.map_map]
    apply List.map_congr_left
    intro i hi
    exact (hg i (hy i hi)).symm
  have hGn : ∀ x ∈ G, x < SN.length := fun x hx => by have := q2 x hx; omega
  have hPy : ∀ y : List Nat, y.Pairwise (· < ·) → (∀ x ∈ y, x < SN.length) → ((((y.map fun i => SN.getD i 0).map Int.ofNat).Pairwise fun a c => comB (rowH wide ps w v a) (rowH wide ps w v c) = false) ↔ Gd (fun i j => comB (rowH wide ps w v (own.getD i 0)) (rowH wide ps w v (own.getD j 0))) own.length 0 [] y) := fun y hy hyn => by
    rw [hmapG y hyn, List.pairwise_map, gd_iff]
    constructor
    · intro h; exact ⟨⟨hy, fun x hx => ⟨Nat.zero_le _, by have := hyn x hx; omega⟩⟩, (fun _ h => by cases h), h⟩
    · rintro ⟨_, _, h⟩; exact h
  have mono : ∀ i j, i < SN.length → j < SN.length → i < j → SN.getD i 0 < SN.getD j 0 := fun i j hi hj hij => by
    rw [List.getD_eq_getElem?_getD, List.getElem?_eq_getElem hi, List.getD_eq_getElem?_getD, List.getElem?_eq_getElem hj]
    exact List.pairwise_iff_getElem.1 hSs i j hi hj hij
  have hGs : G.Sublist (List.range SN.length) := lt_sub (by omega) q1 hGn
  have hAs : (G.map fun i => SN.getD i 0).Sublist SN := by
    have := hGs.map fun i => SN.getD i 0
    rwa [← hSr] at this
  have main := apart_l3 (wide := wide) (w := w) (v := v) hn (SN := SN) (A := G.map fun i => SN.getD i 0) (P := fun x => (x.map Int.ofNat).Pairwise fun a c => comB (rowH wide ps w v a) (rowH wide ps w v c) = false) (fun x => Iff.rfl) (fun s hs => ((hSm s).1 hs).1) (by omega) hSs ((hPy G q1 hGn).2 g1) hAs (fun x hx hp => by
      rw [hSr] at hx
      obtain ⟨y, hy, rfl⟩ := List.sublist_map_iff.1 hx
      have hyn : ∀ z ∈ y, z < SN.length := fun z hz => List.mem_range.1 (hy.subset hz)
      have hyp : y.Pairwise (· < ·) := List.pairwise_lt_range.sublist hy
      have hgd := (hPy y hyp hyn).1 hp
      refine ⟨by rw [List.length_map, List.length_map]; exact g2 y hgd, fun he => ?_⟩
      rw [List.length_map, List.length_map] at he
      exact lex_map mono hGn hyn (g3 y hgd he)) SN.length FU (by
      rw [List.length_map]
      have := hGs.length_le
      rwa [List.length_range] at this) (by omega) (by unfold FU; omega)
  have hsort := rsort_l1 (ps := ps) (H := H) ps 0 rfl (Nat.zero_le _) (by omega)
  have hsort' : oyezref01_Apart_l1 H ps 0 [] = some (SN.map Int.ofNat) := by
    have e : lstN (fun s : Nat => decide ((s : Int) ∈ H)) ps.length = SN.map Int.ofNat := by rw [← hSN]; rfl
    rw [← e]; exact hsort
  unfold oyezref01_Apart
  rw [rAsked_eq (by omega), hH.ask, b1_some, if_neg (fun h => h rfl), Ears_eq hH.open, b1_some, hsort', b1_some, List.length_map, main, hmapG G hGn]
end
theorem fewest_true {wide : Int} {ps : List Int} {w v : Int} {H : List Int} (hb : (ps.length : Int) ≤ 9223372036854775807) : oyezlaw01_HearFewest wide ps w v H = some true := by
  by_cases h1 : 40 < (ps.length : Int)
  · unfold oyezlaw01_HearFewest oyezlaw01_many
    have hml : ∃ n, oyezlaw01_many_l1 ps 0 = some n := by
      have : ∀ (l : List Int) (n : Int), 0 ≤ n → n + l.length ≤ 9223372036854775807 → ∃ m, oyezlaw01_many_l1 l n = some m := by
        intro l
        induction l with
        | nil => intro n _ _; exact ⟨n, rfl⟩
        | cons x l ih =>
          intro n h0 h
          simp only [List.length_cons] at h
          unfold oyezlaw01_many_l1
          by_cases hx : x = 0
          · rw [if_pos hx, gd_t (by unfold R64; omega)]
            exact ih (n + 1) (by omega) (by omega)
          · rw [if_neg hx]
            exact ih n h0 (by omega)
      exact this ps 0 (by omega) (by omega)
    obtain ⟨n, hml⟩ := hml
    rw [hml, b1_some, great_eq, b1_some, awake_t, b1_some, if_pos (decide_eq_true h1), b1_some, if_pos rfl, b1_some, if_pos rfl]
  have hn : ps.length ≤ 1000 := by omega
  unfold oyezlaw01_HearFewest oyezlaw01_many
  rw [many_l1 ps 0 (by omega) (by omega), b1_some, great_eq, b1_some, awake_t, b1_some, ← stN_count, Int.zero_add]
  rw [if_neg (fun h => h1 (of_decide_eq_true h))]
  by_cases h2 : 11 < ((stN ps).length : Int) ∧ (ps.length : Int) ≤ 30
  · rw [if_pos h2.1, b1_some, if_pos (decide_eq_true h2.2), b1_some, if_pos rfl]
  have e1 : (if 11 < ((stN ps).length : Int) then some (decide ((ps.length : Int) ≤ 30)) else some false) = some false := by
    by_cases h3 : 11 < ((stN ps).length : Int)
    · rw [if_pos h3, decide_eq_false (fun h => h2 ⟨h3, h⟩)]
    · rw [if_neg h3]
  rw [e1, b1_some, if_neg (by decide), b1_some]
  by_cases h3 : 12 < (H.length : Int)
  · rw [if_pos (decide_eq_true h3)]
  rw [if_neg (fun h => h3 (of_decide_eq_true h)), own_eq hn, b2_some, copy_eq (by omega), b1_some, theirs_eq hn, b2_some]
  have parts : ∃ a b c d e f, hear_Fewest wide ps w v H = some (a, b) ∧ oyezref01_Fewest wide ps w v H = some (a, b) ∧ hear_Must wide ps w v H = some (c, d) ∧ oyezref01_Must wide ps w v H = some (c, d) ∧ hear_Apart wide ps w v H = some (e, f) ∧ oyezref01_Apart wide ps w v H = some (e, f) := by
    by_cases ha : askE wide ps w v H = 0
    · obtain ⟨a1, a2, a3⟩ := askE_iff.1 ha
      obtain ⟨c1, c2, c3, c4⟩ := airE_ok a1
      have hH : Hs wide ps w v H := ⟨c1, (openE_ok c3).2.2.2.2.1, c4, fun x hx => isE_ok' (a2 x hx), a3⟩
      have hst : (stN ps).length ≤ 12 := by
        have := hH.n30
        have : ¬ 11 < ((stN ps).length : Int) := fun h => h2 ⟨h, by omega⟩
        omega
      obtain ⟨a, b, p1, p2⟩ := few_same hH hst
      obtain ⟨c, d, p3, p4⟩ := must_same hH
      obtain ⟨e, f, p5, p6⟩ := apart_same hH
      exact ⟨a, b, c, d, e, f, p1, p2, p3, p4, p5, p6⟩
    · refine ⟨[], askE wide ps w v H, [], askE wide ps w v H, [], askE wide ps w v H, ?_, ?_, ?_, ?_, ?_, ?_⟩
      · unfold hear_Fewest; rw [asked_eq hn H (by omega), b3_some, if_pos ha]
      · unfold oyezref01_Fewest; rw [rAsked_eq hn, b1_some, if_pos ha]
      · unfold hear_Must; rw [asked_eq hn H (by omega), b3_some, if_pos ha]
      · unfold oyezref01_Must; rw [rAsked_eq hn, b1_some, if_pos ha]
      · obtain ⟨R, r1, _⟩ := sortedS_eq (s := H) (by omega)
        unfold hear_Apart
        rw [values_eq, b1_some] at r1 ⊢
        rw [r1, b1_some, asked_eq hn H (by omega), b3_some, if_pos ha]
      · unfold oyezref01_Apart; rw [rAsked_eq hn, b1_some, if_pos ha]
  obtain ⟨a, b, c, d, e, f, p1, p2, p3, p4, p5, p6⟩ := parts
  rw [p1, b2_some, p2, b2_some, if_neg (fun h => h rfl), like_eq, b1_some, decide_eq_true rfl, b1_some, if_neg (by decide), p3, b2_some, p4, b2_some, if_neg (fun h => h rfl), like_eq, b1_some, decide_eq_true rfl, b1_some, if_neg (by decide), p5, b2_some, p6, b2_some, if_pos rfl, like_eq, b1_some, if_pos (decide_eq_true rfl), same_eq, b1_some, if_pos rfl, like_eq, b1_some, if_pos (decide_eq_true rfl)]
end Go.Proofs.YtejkgppikpkkpaaGreat
