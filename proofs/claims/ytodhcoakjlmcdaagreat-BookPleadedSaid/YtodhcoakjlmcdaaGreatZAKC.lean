/- Layer 7: verdicts, complaints, courses that are tried; in plain Lean. -/
import Derived.Test.YtodhcoakjlmcdaaGreatZAKB
namespace Go.Proofs.YtodhcoakjlmcdaaGreat.Bk
open Go.PL
section
variable {n n2 : Int} {hs : List (List (List Int))} {rs : List Int} {cs : List (Int × Int × Int)}
/-- What stands for all that courses come to. -/
structure EndsOK (hs : List (List (List Int))) (rs : List Int) (cs : List (Int × Int × Int)) (L : List (List Bool × List Int)) : Prop where
  len : L.length ≤ 20000
  of : ∀ e ∈ L, FitF none rs e.2 ∧ e.1 = alongF hs cs 0 e.2 zeroG
  all : ∀ c, FitF none rs c → ∃ e ∈ L, e.1 = alongF hs cs 0 c zeroG
theorem EndsOK.len24 (h : BOK n n2 hs rs cs) {L : List (List Bool × List Int)} (hL : EndsOK hs rs cs L) : ∀ e ∈ L, e.1.length = 24 := fun e he => by
  obtain ⟨h1, h2⟩ := hL.of e he
  rw [h2]; exact alongF_len h _ _ _ h1.rng (by simp [zeroG])
theorem EndsOK.get (h : BOK n n2 hs rs cs) {L : List (List Bool × List Int)} (hL : EndsOK hs rs cs L) {x q : Int} (hx : 0 ≤ x ∧ x < 6) (hq : 0 ≤ q ∧ q < 4) : ∀ e ∈ L, e.1.getD (x * 4 + q).toNat false = heardB hs cs e.2 x q := fun e he => by
  obtain ⟨h1, h2⟩ := hL.of e he
  rw [h2]; exact along_heard h hx hq h1.rng h1.len
theorem told_eq (h : BOK n n2 hs rs cs) (hc : ∃ c, FitF none rs c) : ∃ L, book_desk_endings n n2 hs rs cs = some L ∧ EndsOK hs rs cs L ∧ 1 ≤ L.length ∧ book_told n n2 hs rs cs = some (some (n, n2, hs, rs, cs), L, 0) := by
  obtain ⟨L, e1, g0, g1, g2⟩ := endings_eq h
  obtain ⟨c, hc⟩ := hc
  obtain ⟨e, he, _⟩ := g2 c hc
  have hl : 1 ≤ L.length := by cases L with
    | nil => cases he
    | cons a l => simp
  refine ⟨L, e1, ⟨g0, g1, g2⟩, hl, ?_⟩
  unfold book_told
  rw [opened_eq h, b2_some, if_neg (by decide), b5_some, e1, b1_some, if_neg (by omega)]
/-- What a verdict says. -/
def VerdP (hs : List (List (List Int))) (rs : List Int) (cs : List (Int × Int × Int)) (x q v : Int) : Prop :=
  (v = 1 ∧ ∀ c, FitF none rs c → heardB hs cs c x q = true) ∨ (v = 2 ∧ ∀ c, FitF none rs c → heardB hs cs c x q = false) ∨
  (v = 0 ∧ (∃ c, FitF none rs c ∧ heardB hs cs c x q = true) ∧ ∃ c, FitF none rs c ∧ heardB hs cs c x q = false)
/-- A table of verdicts. -/
structure VTab (n n2 : Int) (hs : List (List (List Int))) (rs : List Int) (cs : List (Int × Int × Int)) (T : List (List Int)) : Prop where
  len : (T.length : Int) = n
  row : ∀ r ∈ T, (r.length : Int) = n2
  get : ∀ x q : Int, (0 ≤ x ∧ x < n) → (0 ≤ q ∧ q < n2) → VerdP hs rs cs x q ((T.getD x.toNat []).getD q.toNat 0)
abbrev Cp := Int × Int × Bool
def trueC (hs : List (List (List Int))) (cs : List (Int × Int × Int)) (c : List Int) (p : Cp) : Bool := decide (heardB hs cs c p.1 p.2.1 = p.2.2)
def wrF (P : Cp → Bool) : List Cp → Int → List Int
  | [], _ => []
  | p :: ps, k => if P p = true then wrF P ps (k + 1) else k :: wrF P ps (k + 1)
theorem wrF_len (P : Cp → Bool) : ∀ (ps : List Cp) (k : Int), (wrF P ps k).length ≤ ps.length
  | [], _ => Nat.le_refl _
  | p :: ps, k => by
    have := wrF_len P ps (k + 1)
    unfold wrF
    split
    · rw [List.length_cons]; omega
    · rw [List.length_cons, List.length_cons]; omega
theorem wrF_nil (P : Cp → Bool) : ∀ (ps : List Cp) (k : Int), wrF P ps k = [] ↔ ∀ p ∈ ps, P p = true
  | [], _ => by simp [wrF]
  | p :: ps, k => by
    unfold wrF
    by_cases e : P p = true
    · rw [if_pos e, wrF_nil P ps (k + 1)]; simp [e]
    · rw [if_neg e]
      simp [e]
def gTrue (g : List Bool) (p : Cp) : Bool := decide (g.getD (p.1 * 4 + p.2.1).toNat false = p.2.2)
theorem is_eq {g : List Bool} (hg : g.length = 24) {p : Cp} (hp : (0 ≤ p.1 ∧ p.1 < 6) ∧ (0 ≤ p.2.1 ∧ p.2.1 < 4)) : book_Complaint_is p.1 p.2.1 p.2.2 g = some (gTrue g p) := by
  unfold book_Complaint_is
  rw [gd_t hp.1, gd_t hp.2, ixD false _ (by omega) (by omega)]; rfl
theorem wrong_l1 {g : List Bool} (hg : g.length = 24) : ∀ (ps : List Cp) (k : Int) (out : List Int), (∀ p ∈ ps, (0 ≤ p.1 ∧ p.1 < 6) ∧ (0 ≤ p.2.1 ∧ p.2.1 < 4)) → out.length + ps.length ≤ 100000 → book_wrong_l1 g ps k out = some (out ++ wrF (gTrue g) ps k)
  | [], _, out, _, _ => by unfold book_wrong_l1 wrF; rw [List.append_nil]
  | p :: ps, k, out, hp, hl => by
    rw [List.length_cons] at hl
    unfold book_wrong_l1 wrF
    rw [is_eq hg (hp p (by simp)), b1_some]
    by_cases e : gTrue g p = true
    · rw [e, if_neg (by decide), if_pos rfl]
      exact wrong_l1 hg ps (k + 1) out (fun q hq => hp q (by simp [hq])) (by omega)
    · have e' : gTrue g p = false := by simpa using e
      rw [e', if_pos (by decide), if_neg (by decide), ap_t (by simp; omega), wrong_l1 hg ps (k + 1) _ (fun q hq => hp q (by simp [hq])) (by simp; omega), List.append_assoc]; rfl
theorem wrong_eq {g : List Bool} (hg : g.length = 24) {ps : List Cp} (hp : ∀ p ∈ ps, (0 ≤ p.1 ∧ p.1 < 6) ∧ (0 ≤ p.2.1 ∧ p.2.1 < 4)) (hl : ps.length ≤ 1000) : book_wrong ps g = some (wrF (gTrue g) ps 0) := by
  unfold book_wrong
  rw [wrong_l1 hg ps 0 [] hp (by simp; omega), b1_some, List.nil_append]
/-- Complaints that are right. -/
def CpOK (n n2 : Int) (ps : List Cp) : Prop := ps.length ≤ 8 ∧ ∀ p ∈ ps, (0 ≤ p.1 ∧ p.1 < n) ∧ (0 ≤ p.2.1 ∧ p.2.1 < n2)
theorem CpOK.rng (h : BOK n n2 hs rs cs) {ps : List Cp} (hp : CpOK n n2 ps) : ∀ p ∈ ps, (0 ≤ p.1 ∧ p.1 < 6) ∧ (0 ≤ p.2.1 ∧ p.2.1 < 4) := fun p hm => by
  have := hp.2 p hm; have := h.hn; have := h.hn2; omega
theorem gTrue_eq (h : BOK n n2 hs rs cs) {L : List (List Bool × List Int)} (hL : EndsOK hs rs cs L) {ps : List Cp} (hp : CpOK n n2 ps) {e : List Bool × List Int} (he : e ∈ L) : ∀ p ∈ ps, gTrue e.1 p = trueC hs cs e.2 p := fun p hm => by
  obtain ⟨h1, h2⟩ := hp.rng h p hm
  unfold gTrue trueC
  rw [hL.get h h1 h2 e he]
theorem complained_eq (h : BOK n n2 hs rs cs) {ps : List Cp} (hp : CpOK n n2 ps) : book_complained n n2 hs rs cs ps = some 0 := by
  have key : ∀ l : List Cp, (∀ p ∈ l, (0 ≤ p.1 ∧ p.1 < n) ∧ (0 ≤ p.2.1 ∧ p.2.1 < n2)) → book_complained_l2 n n2 hs rs cs l = some 0 := fun l => by
    induction l with
    | nil => intro _; rfl
    | cons p l ih =>
      intro hl
      obtain ⟨h1, h2⟩ := hl p (by simp)
      unfold book_complained_l2 book_Complaint_error
      rw [house_eq h, b1_some, decide_eq_true h1, if_neg (by decide), notice_eq h, b1_some, decide_eq_true h2, b1_some, if_neg (by decide), b1_some, if_neg (by decide)]
      exact ih fun q hq => hl q (by simp [hq])
  unfold book_complained
  have := hp.1
  rw [Check_eq h, b1_some, if_neg (by decide), if_neg (by omega)]
  exact key ps hp.2
theorem bheard_eq (h : BOK n n2 hs rs cs) (hc : ∃ c, FitF none rs c) {ps : List Cp} (hp : CpOK n n2 ps) : ∃ L, EndsOK hs rs cs L ∧ 1 ≤ L.length ∧ book_heard n n2 hs rs cs ps = some (L, 0) := by
  obtain ⟨L, _, hL, hl, e1⟩ := told_eq h hc
  refine ⟨L, hL, hl, ?_⟩
  unfold book_heard
  rw [complained_eq h hp, b1_some, if_neg (by decide), e1, b3_some]
theorem find_l2 {met : List Bool → Option Bool} {P : List Bool × List Int → Bool} : ∀ (L : List (List Bool × List Int)), (∀ e ∈ L, met e.1 = some (P e) ∧ e.2 ≠ []) →
    (∃ e ∈ L, P e = true ∧ book_goal_find_l2 met L = some e.2) ∨ ((∀ e ∈ L, P e = false) ∧ book_goal_find_l2 met L = some [])
  | [], _ => .inr ⟨(fun _ h => nomatch h), rfl⟩
  | e :: L, hL => by
    obtain ⟨h1, h2⟩ := hL e (by simp)
    unfold book_goal_find_l2
    rw [h1, b1_some]
    by_cases e1 : P e = true
    · rw [e1, if_pos rfl, gd_t h2]
      exact .inl ⟨e, by simp, e1, rfl⟩
    · rw [if_neg e1]
      rcases find_l2 L (fun e he => hL e (by simp [he])) with ⟨e2, h3, h4⟩ | ⟨h3, h4⟩
      · exact .inl ⟨e2, by simp [h3], h4⟩
      · refine .inr ⟨fun a ha => ?_, h4⟩
        rcases List.mem_cons.1 ha with rfl | ha
        · simpa using e1
        · exact h3 a ha
theorem fit_ne (h : BOK n n2 hs rs cs) {c : List Int} (hc : FitF none rs c) : c ≠ [] := by
  have h1 := hc.len; have := h.hr
  intro e; rw [e] at h1; simp at h1; omega
theorem Together_eq (h : BOK n n2 hs rs cs) (hc : ∃ c, FitF none rs c) {ps : List Cp} (hp : CpOK n n2 ps) :
    (∃ c, FitF none rs c ∧ (∀ p ∈ ps, heardB hs cs c p.1 p.2.1 = p.2.2) ∧ book_Together n n2 hs rs cs ps = some (c, 0)) ∨
    ((∀ c, FitF none rs c → ∃ p ∈ ps, heardB hs cs c p.1 p.2.1 ≠ p.2.2) ∧ book_Together n n2 hs rs cs ps = some ([], 6)) := by
  obtain ⟨L, hL, hl, e1⟩ := bheard_eq h hc hp
  have hP : ∀ e ∈ L, (fun xx_ : List Bool => book_Together_1 xx_ ps) e.1 = some (decide (wrF (gTrue e.1) ps 0 = [])) ∧ e.2 ≠ [] := fun e he => by
    refine ⟨?_, fit_ne h (hL.of e he).1⟩
    show book_Together_1 e.1 ps = _
    unfold book_Together_1
    rw [wrong_eq (hL.len24 h e he) (hp.rng h) (by have := hp.1; omega), b1_some]
    congr 1
    rw [decide_eq_decide]
    cases wrF (gTrue e.1) ps 0 with
    | nil => simp
    | cons a l => simp; omega
  have hiff : ∀ e ∈ L, (wrF (gTrue e.1) ps 0 = [] ↔ ∀ p ∈ ps, heardB hs cs e.2 p.1 p.2.1 = p.2.2) := fun e he => by
    rw [wrF_nil]
    refine ⟨fun hh p hm => ?_, fun hh p hm => ?_⟩
    · have := hh p hm
      rw [gTrue_eq h hL hp he p hm] at this
      exact of_decide_eq_true this
    · rw [gTrue_eq h hL hp he p hm]; exact decide_eq_true (hh p hm)
  unfold book_Together
  rw [e1, b2_some, if_neg (by decide)]
  unfold book_goal_find
  rcases find_l2 (met := fun xx_ : List Bool => book_Together_1 xx_ ps) (P := fun e => decide (wrF (gTrue e.1) ps 0 = [])) L hP with ⟨e, he, h2, h3⟩ | ⟨h2, h3⟩
  · refine .inl ⟨e.2, (hL.of e he).1, (hiff e he).1 (of_decide_eq_true h2), ?_⟩
    rw [h3, b1_some, if_neg (hP e he).2]
  · refine .inr ⟨fun c hc => ?_, by rw [h3, b1_some, if_pos rfl]⟩
    apply Classical.byContradiction
    intro hno
    obtain ⟨e, he, h4⟩ := hL.all c hc
    have h5 := of_decide_eq_false (h2 e he)
    refine h5 ((wrF_nil _ _ _).2 fun p hm => ?_)
    obtain ⟨g1, g2⟩ := hp.rng h p hm
    unfold gTrue
    rw [h4, along_heard h g1 g2 hc.rng hc.len]
    exact decide_eq_true (Classical.byContradiction fun h6 => hno ⟨p, hm, h6⟩)
theorem Witness_eq (h : BOK n n2 hs rs cs) (hc : ∃ c, FitF none rs c) {x q : Int} (hx : 0 ≤ x ∧ x < n) (hq : 0 ≤ q ∧ q < n2) (b : Bool) :
    (∃ c, FitF none rs c ∧ heardB hs cs c x q = b ∧ book_Witness n n2 hs rs cs x q b = some (c, 0) ∧ book_Refuted n n2 hs rs cs x q b = some (false, 0)) ∨
    ((∀ c, FitF none rs c → heardB hs cs c x q ≠ b) ∧ book_Witness n n2 hs rs cs x q b = some ([], 6) ∧ book_Refuted n n2 hs rs cs x q b = some (true, 0)) := by
  have hp : CpOK n n2 [(x, q, b)] := ⟨by simp, fun p hm => by rw [List.mem_singleton] at hm; subst hm; exact ⟨hx, hq⟩⟩
  rcases Together_eq h hc hp with ⟨c, h1, h2, h3⟩ | ⟨h1, h2⟩
  · have e1 : book_Witness n n2 hs rs cs x q b = some (c, 0) := by unfold book_Witness; rw [h3, b2_some]
    exact .inl ⟨c, h1, h2 _ (List.mem_singleton.2 rfl), e1, by unfold book_Refuted; rw [e1, b2_some, if_pos rfl]⟩
  · have e1 : book_Witness n n2 hs rs cs x q b = some ([], 6) := by unfold book_Witness; rw [h2, b2_some]
    refine .inr ⟨fun c hc => ?_, e1, by unfold book_Refuted; rw [e1, b2_some, if_neg (by decide), if_pos rfl]⟩
    obtain ⟨p, hm, h3⟩ := h1 c hc
    rw [List.mem_singleton] at hm; subst hm
    exact h3
theorem course_eq (h : BOK n n2 hs rs cs) {c : List Int} (hl : c.length = rs.length) (hc : ∀ w ∈ c, 0 ≤ w ∧ w ≤ 7) : book_course n n2 hs rs cs c = some (some (n, n2, hs, rs, cs), 0) := by
  unfold book_course
  rw [opened_eq h, b2_some, if_neg (by decide), if_neg (by rw [hl]; simp), every_eq (g := fun _ => true) (fun w hw => by unfold book_course_1; rw [in_eq, b1_some, decide_eq_true (hc w hw)]), b1_some, show c.all (fun _ => true) = true by rw [List.all_eq_true]; exact fun _ _ => rfl, if_neg (by decide)]
def prevO (c : List Int) (k : Nat) : Option Int := if k = 0 then none else some (c.getD (k - 1) 0)
def fitB : Option Int → List Int → List Int → Bool
  | _, [], [] => true
  | p, r :: rs, w :: c => canB r w && (match p with | some v => nearB w v | none => true) && fitB (some w) rs c
  | _, _, _ => false
theorem fitB_iff : ∀ {p : Option Int} {rs c : List Int}, (∀ w ∈ c, 0 ≤ w ∧ w ≤ 7) → (fitB p rs c = true ↔ FitF p rs c)
  | _, [], [], _ => ⟨fun _ => trivial, fun _ => rfl⟩
  | p, r :: rs, w :: c, hc => by
    have ih := fitB_iff (p := some w) (rs := rs) (c := c) (fun x hx => hc x (by simp [hx]))
    unfold fitB FitF
    rw [Bool.and_eq_true, Bool.and_eq_true, ih]
    cases p with
    | none => exact ⟨fun ⟨⟨h1, _⟩, h3⟩ => ⟨hc w (by simp), h1, (fun _ h => nomatch h), h3⟩, fun ⟨_, h1, _, h3⟩ => ⟨⟨h1, rfl⟩, h3⟩⟩
    | some v => exact ⟨fun ⟨⟨h1, h2⟩, h3⟩ => ⟨hc w (by simp), h1, fun _ h => by cases h; exact h2, h3⟩, fun ⟨_, h1, h2, h3⟩ => ⟨⟨h1, h2 v rfl⟩, h3⟩⟩
  | _, [], _ :: _, _ => ⟨(fun h => nomatch h), fun h => h.elim⟩
  | _, _ :: _, [], _ => ⟨(fun h => nomatch h), fun h => h.elim⟩
theorem lfit_l2 {rs : List Int} (h8 : rs.length ≤ 8) (hr : ∀ r ∈ rs, -1 ≤ r ∧ r ≤ 7) {c : List Int} (hl : c.length = rs.length) (hc : ∀ w ∈ c, 0 ≤ w ∧ w ≤ 7) : ∀ (tl : List Int) (k : Nat), c.drop k = tl → oyezlaw07_fit_l2 rs c tl (k : Int) = some (fitB (prevO c k) (rs.drop k) tl)
  | [], k, hd => by
    have : c.length ≤ k := by have := congrArg List.length hd; simp at this; omega
    rw [List.drop_eq_nil_of_le (show rs.length ≤ k by omega)]; rfl
  | x :: tl, k, hd => by
    obtain ⟨hk, hx, hd2⟩ := drop_cons 0 hd
    have hkr : k < rs.length := by omega
    have hx7 : 0 ≤ x ∧ x ≤ 7 := by rw [← hx]; exact hc _ (getD_mem hk)
    have er : rs.drop k = rs.getD k 0 :: rs.drop (k + 1) := by
      rw [List.drop_eq_getElem_cons hkr, List.getD_eq_getElem?_getD, List.getElem?_eq_getElem hkr]; rfl
    have hr7 := hr _ (getD_mem (d := 0) hkr)
    have ih := lfit_l2 h8 hr hl hc tl (k + 1) hd2
    have e0 : prevO c (k + 1) = some x := by unfold prevO; rw [if_neg (by omega), Nat.add_sub_cancel, hx]
    rw [e0] at ih
    rw [er]
    unfold oyezlaw07_fit_l2 fitB
    rw [ixI _ hkr]
    generalize rs.getD k 0 = r at hr7
    have e2 : (if 0 < (k : Int) then gd (R64 ((k : Int) - 1)) <| ix c ((k : Int) - 1) fun x3 => b1 (oyezlaw07_near x x3) fun ok2 => some (!ok2) else some false) = some (!(match prevO c k with | some v => nearB x v | none => true)) := by
      unfold prevO
      by_cases e : k = 0
      · subst e; rw [if_neg (by decide), if_pos rfl]; rfl
      · rw [if_pos (by omega), if_neg e, gd_t (r64_small (by omega)), show (k : Int) - 1 = ((k - 1 : Nat) : Int) by omega, ixI _ (by omega), lnear_eq hx7 (hc _ (getD_mem (by omega))), b1_some]
    have e3 : (if r ≠ (-1) then b1 (oyezlaw07_near x r) fun ok => if (!ok) = true then some true else (if 0 < (k : Int) then gd (R64 ((k : Int) - 1)) <| ix c ((k : Int) - 1) fun x3 => b1 (oyezlaw07_near x x3) fun ok2 => some (!ok2) else some false) else (if 0 < (k : Int) then gd (R64 ((k : Int) - 1)) <| ix c ((k : Int) - 1) fun x4 => b1 (oyezlaw07_near x x4) fun ok3 => some (!ok3) else some false)) = some (!(canB r x && (match prevO c k with | some v => nearB x v | none => true))) := by
      unfold canB
      by_cases e : r = -1
      · rw [if_neg (by simp [e]), e2]; simp [e]
      · rw [if_pos e, lnear_eq hx7 (by omega), b1_some]
        by_cases e4 : nearB x r = true
        · rw [e4, if_neg (by decide), e2]; simp
        · have e5 : nearB x r = false := by simpa using e4
          rw [e5, if_pos (by decide)]; simp [e]
    rw [e3, b1_some]
    by_cases e : (canB r x && (match prevO c k with | some v => nearB x v | none => true)) = true
    · rw [e, if_neg (by decide), show (k : Int) + 1 = ((k + 1 : Nat) : Int) by omega, ih]; simp
    · have e' : (canB r x && (match prevO c k with | some v => nearB x v | none => true)) = false := by simpa using e
      rw [e', if_pos (by decide)]; simp
theorem lfit_eq (h : BOK n n2 hs rs cs) {c : List Int} (hl : c.length = rs.length) (hc : ∀ w ∈ c, 0 ≤ w ∧ w ≤ 7) : oyezlaw07_fit n n2 hs rs cs c = some (fitB none rs c) := lfit_l2 h.hr.2 h.rr hl hc c 0 rfl
theorem right_eq (h : BOK n n2 hs rs cs) {c : List Int} (hc : FitF none rs c) : oyezlaw07_right n n2 hs rs cs c = some true := by
  unfold oyezlaw07_right
  rw [if_pos (by rw [hc.len]), idx_int_int (g := fun _ => false) (fun w hw => by
    have := hc.rng w hw
    unfold oyezlaw07_right_1
    rw [if_neg (by omega)]; congr 1; exact decide_eq_false (by omega)), b1_some, show c.any (fun _ => false) = false by rw [List.any_eq_false]; exact fun _ _ => by decide, if_pos (by decide), lfit_eq h hc.len hc.rng, b1_some, (fitB_iff hc.rng).2 hc]
theorem along_l1 (h : BOK n n2 hs rs cs) : ∀ (c : List Int) (k : Nat) (g : List Bool), (∀ w ∈ c, 0 ≤ w ∧ w ≤ 7) → g.length = 24 → book_desk_along_l1 n n2 hs rs cs c (k : Int) g = some (alongF hs cs (k : Int) c g)
  | [], _, _, _, _ => rfl
  | w :: c, k, g, hc, hg => by
    obtain ⟨h1, h2⟩ := hear_eq h (k : Int) (hc w (by simp)) hg
    unfold book_desk_along_l1
    rw [h1, b1_some, show (k : Int) + 1 = ((k + 1 : Nat) : Int) by omega, along_l1 h c (k + 1) _ (fun x hx => hc x (by simp [hx])) h2, show ((k + 1 : Nat) : Int) = (k : Int) + 1 by omega]; rfl
theorem along_eq (h : BOK n n2 hs rs cs) {c : List Int} (hc : ∀ w ∈ c, 0 ≤ w ∧ w ≤ 7) : book_desk_along n n2 hs rs cs c = some (alongF hs cs 0 c zeroG) := by
  unfold book_desk_along
  have := along_l1 h c 0 zeroG hc (by simp [zeroG])
  have this' : book_desk_along_l1 n n2 hs rs cs c 0 (List.replicate 24 false) = some (alongF hs cs 0 c zeroG) := this
  rw [this', b1_some]
end
end Go.Proofs.YtodhcoakjlmcdaaGreat.Bk
