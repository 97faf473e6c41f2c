/- Layer 7: verdicts, complaints, courses that are tried; in plain Lean. -/
import Derived.Test.YtfmapnhfamoecaaGreatZLMA
namespace Go.Proofs.YtfmapnhfamoecaaGreat.Bk
open Go.PL
section
variable {n n2 : Int} {hs : List (List (List Int))} {rs : List Int} {cs : List (Int × Int × Int)}
structure KX (hs : List (List (List Int))) (rs : List Int) (cs : List (Int × Int × Int)) (L : List (List Bool × List Int)) : Prop where
  len : L.length ≤ 20000
  of : ∀ e ∈ L, Ej none rs e.2 ∧ e.1 = Fj hs cs 0 e.2 Gf
  all : ∀ c, Ej none rs c → ∃ e ∈ L, e.1 = Fj hs cs 0 c Gf
theorem KX.Wn (h : Jg n n2 hs rs cs) {L : List (List Bool × List Int)} (hL : KX hs rs cs L) : ∀ e ∈ L, e.1.length = 24 := fun e he => by
  obtain ⟨h1, h2⟩ := hL.of e he
  rw [h2]; exact KV h _ _ _ h1.T3 (by simp [Gf])
theorem KX.get (h : Jg n n2 hs rs cs) {L : List (List Bool × List Int)} (hL : KX hs rs cs L) {x q : Int} (hx : 0 ≤ x ∧ x < 6) (hq : 0 ≤ q ∧ q < 4) : ∀ e ∈ L, e.1.getD (x * 4 + q).toNat false = CB hs cs e.2 x q := fun e he => by
  obtain ⟨h1, h2⟩ := hL.of e he
  rw [h2]; exact Ly h hx hq h1.T3 h1.len
theorem KX.YA (h : Jg n n2 hs rs cs) {L : List (List Bool × List Int)} (hL : KX hs rs cs L) {x q : Int} (hx : 0 ≤ x ∧ x < 6) (hq : 0 ≤ q ∧ q < 4) {c : List Int} (hc : Ej none rs c) : ∃ e ∈ L, e.1.getD (x * 4 + q).toNat false = CB hs cs c x q := by
  obtain ⟨e, he, h2⟩ := hL.all c hc
  exact ⟨e, he, by rw [h2]; exact Ly h hx hq hc.T3 hc.len⟩
theorem SG (h : Jg n n2 hs rs cs) (hc : ∃ c, Ej none rs c) : ∃ L, Dg n n2 hs rs cs = some L ∧ KX hs rs cs L ∧ 1 ≤ L.length ∧ JT n n2 hs rs cs = some (some (n, n2, hs, rs, cs), L, 0) := by
  obtain ⟨L, e1, g0, g1, g2⟩ := QL h
  obtain ⟨c, hc⟩ := hc
  obtain ⟨e, he, _⟩ := g2 c hc
  have hl : 1 ≤ L.length := by cases L with
    | nil => cases he
    | cons a l => simp
  refine ⟨L, e1, ⟨g0, g1, g2⟩, hl, ?_⟩
  unfold JT
  rw [R5 h, DD, if_neg (by decide), Qy, e1, AJ, if_neg (by omega)]
def Nq (L : List (List Bool × List Int)) (x q : Int) : Nat := L.countP fun e => e.1.getD (x * 4 + q).toNat false
def So (L : List (List Bool × List Int)) (x q : Int) : Int := if Nq L x q = L.length then 1 else if Nq L x q = 0 then 2 else 0
theorem Sp {x q : Int} (hx : 0 ≤ x ∧ x < 6) (hq : 0 ≤ q ∧ q < 4) : ∀ (L : List (List Bool × List Int)) (m : Nat), (∀ e ∈ L, e.1.length = 24) → m + L.length ≤ 100000 → DA x q L (m : Int) = some ((m + Nq L x q : Nat) : Int)
  | [], m, _, _ => rfl
  | e :: L, m, hL, hm => by
    rw [List.length_cons] at hm
    have he := hL e (by simp)
    unfold DA
    rw [CN hx, CN hq, U9 false _ (by omega) (by omega)]
    by_cases e1 : e.1.getD (x * 4 + q).toNat false = true
    · rw [e1, if_pos rfl, CN (A9 (by omega)), show (m : Int) + 1 = ((m + 1 : Nat) : Int) by omega, Sp hx hq L (m + 1) (fun e he => hL e (by simp [he])) (by omega)]
      have : Nq (e :: L) x q = Nq L x q + 1 := by unfold Nq; rw [List.countP_cons, e1]; rfl
      rw [this]; congr 2; omega
    · have aa : e.1.getD (x * 4 + q).toNat false = false := by simpa using e1
      rw [aa, if_neg (by decide), Sp hx hq L m (fun e he => hL e (by simp [he])) (by omega)]
      have : Nq (e :: L) x q = Nq L x q := by unfold Nq; rw [List.countP_cons, aa]; rfl
      rw [this]
theorem Vd {L : List (List Bool × List Int)} (hL : ∀ e ∈ L, e.1.length = 24) (hl : L.length ≤ 90000) {k N2 : Nat} (hk : k < 6) (hN : N2 ≤ 4) : ∀ (fu q : Nat) (out : List (List Int)), q + fu = N2 → k < out.length → out.getD k [] = (List.range q).map (fun q : Nat => So L (k : Int) (q : Int)) →
    ∃ R, D8 L (k : Int) fu (q : Int) out = some R ∧ R.length = out.length ∧ R.getD k [] = (List.range N2).map (fun q : Nat => So L (k : Int) (q : Int)) ∧ ∀ j, j ≠ k → R.getD j [] = out.getD j []
  | 0, q, out, hq, aa, ho => ⟨out, rfl, rfl, by rw [ho, show q = N2 by omega], fun _ _ => rfl⟩
  | fu + 1, q, out, hq, aa, ho => by
    have e0 : DA (k : Int) (q : Int) L 0 = some ((Nq L (k : Int) (q : Int) : Nat) : Int) := by
      have := Sp (x := (k : Int)) (q := (q : Int)) (by omega) (by omega) L 0 hL (by omega)
      rw [Nat.zero_add] at this; exact this
    have ev : (b1 (if ((Nq L (k : Int) (q : Int) : Nat) : Int) = (L.length : Int) then some (1 : Int) else if ((Nq L (k : Int) (q : Int) : Nat) : Int) = 0 then some 2 else some 0) fun v => ix out (k : Int) fun x3 => ap x3 [v] fun l3 => bv (out.set ((k : Int)).toNat l3) fun ab => some ab) = some (out.set k (out.getD k [] ++ [So L (k : Int) (q : Int)])) := by
      have e1 : (if ((Nq L (k : Int) (q : Int) : Nat) : Int) = (L.length : Int) then some (1 : Int) else if ((Nq L (k : Int) (q : Int) : Nat) : Int) = 0 then some 2 else some 0) = some (So L (k : Int) (q : Int)) := by
        unfold So
        by_cases h1 : Nq L (k : Int) (q : Int) = L.length
        · rw [if_pos (by omega), if_pos h1]
        · by_cases h2 : Nq L (k : Int) (q : Int) = 0
          · rw [if_neg (by omega), if_pos (by omega), if_neg h1, if_pos h2]
          · rw [if_neg (by omega), if_neg (by omega), if_neg h1, if_neg h2]
      rw [e1, AJ, YI [] _ aa, Kv (by rw [ho]; simp; omega), QO, Int.toNat_natCast]
    obtain ⟨R, g1, g2, g3, g4⟩ := Vd hL hl hk hN fu (q + 1) (out.set k (out.getD k [] ++ [So L (k : Int) (q : Int)])) (by omega) (by rw [List.length_set]; exact aa) (by
      rw [Ee aa, if_pos rfl, ho, List.range_succ, List.map_append]; rfl)
    refine ⟨R, ?_, by rw [g2, List.length_set], g3, fun j hj => by rw [g4 j hj, Ee aa, if_neg (fun e => hj e.symm)]⟩
    unfold D8
    rw [e0, AJ, ev, AJ, show (q : Int) + 1 = ((q + 1 : Nat) : Int) by omega]
    exact g1
theorem UR {L : List (List Bool × List Int)} (hL : ∀ e ∈ L, e.1.length = 24) (hl : L.length ≤ 90000) {N N2 : Nat} (aa : N ≤ 6) (hN : N2 ≤ 4) : ∀ (fu k : Nat) (out : List (List Int)), k + fu = N → out.length = N → (∀ j, k ≤ j → out.getD j [] = []) →
    ∃ R, D6 (N2 : Int) L fu (k : Int) out = some R ∧ R.length = N ∧ (∀ j, j < k → R.getD j [] = out.getD j []) ∧ ∀ j, k ≤ j → j < N → R.getD j [] = (List.range N2).map (fun q : Nat => So L (j : Int) (q : Int))
  | 0, k, out, hk, ho, _ => ⟨out, rfl, ho, fun _ _ => rfl, fun j h1 h2 => by omega⟩
  | fu + 1, k, out, hk, ho, hj => by
    obtain ⟨R1, g1, g2, g3, g4⟩ := Vd hL hl (k := k) (N2 := N2) (by omega) hN N2 0 out (by omega) (by omega) (by rw [hj k (Nat.le_refl _)]; rfl)
    obtain ⟨R, f1, f2, f3, f4⟩ := UR hL hl aa hN fu (k + 1) R1 (by omega) (by omega) (fun j h1 => by rw [g4 j (by omega)]; exact hj j (by omega))
    refine ⟨R, ?_, f2, fun j h1 => by rw [f3 j (by omega)]; exact g4 j (by omega), fun j h1 h2 => ?_⟩
    · have ab : D8 L (k : Int) (Int.toNat ((N2 : Int) - 0)) 0 out = some R1 := by
        rw [show Int.toNat ((N2 : Int) - 0) = N2 by omega]; exact g1
      unfold D6
      rw [CN ⟨A9 (by omega), A9 (by omega)⟩, ab, AJ, show (k : Int) + 1 = ((k + 1 : Nat) : Int) by omega]
      exact f1
    · by_cases e : j = k
      · subst e; rw [f3 j (by omega)]; exact g3
      · exact f4 j (by omega) h2
def Tw (hs : List (List (List Int))) (rs : List Int) (cs : List (Int × Int × Int)) (x q v : Int) : Prop :=
  (v = 1 ∧ ∀ c, Ej none rs c → CB hs cs c x q = true) ∨ (v = 2 ∧ ∀ c, Ej none rs c → CB hs cs c x q = false) ∨
  (v = 0 ∧ (∃ c, Ej none rs c ∧ CB hs cs c x q = true) ∧ ∃ c, Ej none rs c ∧ CB hs cs c x q = false)
theorem Xd (h : Jg n n2 hs rs cs) {L : List (List Bool × List Int)} (hL : KX hs rs cs L) (_hl : 1 ≤ L.length) {x q : Int} (hx : 0 ≤ x ∧ x < 6) (hq : 0 ≤ q ∧ q < 4) : Tw hs rs cs x q (So L x q) := by
  unfold So Nq
  have hg := hL.get h hx hq
  by_cases h1 : L.countP (fun e => e.1.getD (x * 4 + q).toNat false) = L.length
  · rw [if_pos h1]
    refine .inl ⟨rfl, fun c hc => ?_⟩
    obtain ⟨e, he, h2⟩ := hL.YA h hx hq hc
    rw [← h2]; exact List.countP_eq_length.1 h1 e he
  · rw [if_neg h1]
    have ⟨e1, aa, hf1⟩ : ∃ e ∈ L, e.1.getD (x * 4 + q).toNat false = false := by
      apply Classical.byContradiction
      intro ab
      refine h1 (List.countP_eq_length.2 fun e he => ?_)
      cases hq : e.1.getD (x * 4 + q).toNat false with
      | true => rfl
      | false => exact absurd ⟨e, he, hq⟩ ab
    by_cases h2 : L.countP (fun e => e.1.getD (x * 4 + q).toNat false) = 0
    · rw [if_pos h2]
      refine .inr (.inl ⟨rfl, fun c hc => ?_⟩)
      obtain ⟨e, he, h3⟩ := hL.YA h hx hq hc
      rw [← h3]
      have := List.countP_eq_zero.1 h2 e he
      simpa using this
    · rw [if_neg h2]
      obtain ⟨e, he, h3⟩ : ∃ e ∈ L, e.1.getD (x * 4 + q).toNat false = true := List.countP_pos_iff.1 (by omega)
      exact .inr (.inr ⟨rfl, ⟨e.2, (hL.of e he).1, by rw [← hg e he]; exact h3⟩, ⟨e1.2, (hL.of e1 aa).1, by rw [← hg e1 aa]; exact hf1⟩⟩)
structure Zk (n n2 : Int) (hs : List (List (List Int))) (rs : List Int) (cs : List (Int × Int × Int)) (T : List (List Int)) : Prop where
  len : (T.length : Int) = n
  row : ∀ r ∈ T, (r.length : Int) = n2
  get : ∀ x q : Int, (0 ≤ x ∧ x < n) → (0 ≤ q ∧ q < n2) → Tw hs rs cs x q ((T.getD x.toNat []).getD q.toNat 0)
theorem Rt {α : Type} (f : Nat → α) {m j : Nat} (d : α) (h : j < m) : ((List.range m).map f).getD j d = f j := by
  rw [List.getD_eq_getElem?_getD, List.getElem?_map, List.getElem?_range h]; rfl
theorem S8 (h : Jg n n2 hs rs cs) (hc : ∃ c, Ej none rs c) : ∃ T, HM n n2 hs rs cs = some (T, 0) ∧ Zk n n2 hs rs cs T := by
  obtain ⟨L, _, hL, hl, e1⟩ := SG h hc
  have hn := h.hn; have MM := h.MM
  obtain ⟨N, rfl⟩ := Int.eq_ofNat_of_zero_le (show 0 ≤ n by omega)
  obtain ⟨N2, rfl⟩ := Int.eq_ofNat_of_zero_le (show 0 ≤ n2 by omega)
  obtain ⟨R, g1, g2, _, g4⟩ := UR (hL.Wn h) (by have := hL.len; omega) (N := N) (N2 := N2) (by omega) (by omega) N 0 (List.replicate N []) (by omega) (by simp) (fun j _ => by
    rw [List.getD_eq_getElem?_getD, List.getElem?_replicate]; split <;> rfl)
  refine ⟨R, ?_, by omega, fun r hr => ?_, fun x q hx hq => ?_⟩
  · unfold HM
    have aa : D6 (N2 : Int) L (Int.toNat (((List.replicate ((N : Int)).toNat ([] : List Int)).length : Int) - 0)) 0 (List.replicate ((N : Int)).toNat []) = some R := by
      rw [Int.toNat_natCast, List.length_replicate, show Int.toNat ((N : Int) - 0) = N by omega]; exact g1
    rw [e1, CP, if_neg (by decide), CN (by omega), QO, CN ⟨A9 (by omega), A9 (by rw [List.length_replicate]; omega)⟩, aa, AJ]
  · obtain ⟨j, hj, rfl⟩ := List.mem_iff_getElem.1 hr
    have := g4 j (Nat.zero_le _) (by omega)
    rw [List.getD_eq_getElem?_getD, List.getElem?_eq_getElem hj] at this
    have : R[j] = _ := this
    rw [this]; simp
  · obtain ⟨x, rfl⟩ := Int.eq_ofNat_of_zero_le hx.1
    obtain ⟨q, rfl⟩ := Int.eq_ofNat_of_zero_le hq.1
    rw [Int.toNat_natCast, Int.toNat_natCast, g4 x (Nat.zero_le _) (by omega), Rt _ _ (by omega)]
    exact Xd h hL hl (by omega) (by omega)
abbrev Cp := Int × Int × Bool
def WL (hs : List (List (List Int))) (cs : List (Int × Int × Int)) (c : List Int) (p : Cp) : Bool := decide (CB hs cs c p.1 p.2.1 = p.2.2)
def VT (P : Cp → Bool) : List Cp → Int → List Int
  | [], _ => []
  | p :: ps, k => if P p = true then VT P ps (k + 1) else k :: VT P ps (k + 1)
theorem Se (P : Cp → Bool) : ∀ (ps : List Cp) (k : Int), VT P ps k = [] ↔ ∀ p ∈ ps, P p = true
  | [], _ => by simp [VT]
  | p :: ps, k => by
    unfold VT
    by_cases e : P p = true
    · rw [if_pos e, Se P ps (k + 1)]; simp [e]
    · rw [if_neg e]
      simp [e]
def MI (g : List Bool) (p : Cp) : Bool := decide (g.getD (p.1 * 4 + p.2.1).toNat false = p.2.2)
theorem Ze {g : List Bool} (hg : g.length = 24) {p : Cp} (hp : (0 ≤ p.1 ∧ p.1 < 6) ∧ (0 ≤ p.2.1 ∧ p.2.1 < 4)) : Gm p.1 p.2.1 p.2.2 g = some (MI g p) := by
  unfold Gm
  rw [CN hp.1, CN hp.2, U9 false _ (by omega) (by omega)]; rfl
theorem RC {g : List Bool} (hg : g.length = 24) : ∀ (ps : List Cp) (k : Int) (out : List Int), (∀ p ∈ ps, (0 ≤ p.1 ∧ p.1 < 6) ∧ (0 ≤ p.2.1 ∧ p.2.1 < 4)) → out.length + ps.length ≤ 100000 → EN g ps k out = some (out ++ VT (MI g) ps k)
  | [], _, out, _, _ => by unfold EN VT; rw [List.append_nil]
  | p :: ps, k, out, hp, hl => by
    rw [List.length_cons] at hl
    unfold EN VT
    rw [Ze hg (hp p (by simp)), AJ]
    by_cases e : MI g p = true
    · rw [e, if_neg (by decide), if_pos rfl]
      exact RC hg ps (k + 1) out (fun q hq => hp q (by simp [hq])) (by omega)
    · have e' : MI g p = false := by simpa using e
      rw [e', if_pos (by decide), if_neg (by decide), Kv (by simp; omega), RC hg ps (k + 1) _ (fun q hq => hp q (by simp [hq])) (by simp; omega), List.append_assoc]; rfl
theorem V7 {g : List Bool} (hg : g.length = 24) {ps : List Cp} (hp : ∀ p ∈ ps, (0 ≤ p.1 ∧ p.1 < 6) ∧ (0 ≤ p.2.1 ∧ p.2.1 < 4)) (hl : ps.length ≤ 1000) : Lg ps g = some (VT (MI g) ps 0) := by
  unfold Lg
  rw [RC hg ps 0 [] hp (by simp; omega), AJ, List.nil_append]
def Tk (n n2 : Int) (ps : List Cp) : Prop := ps.length ≤ 8 ∧ ∀ p ∈ ps, (0 ≤ p.1 ∧ p.1 < n) ∧ (0 ≤ p.2.1 ∧ p.2.1 < n2)
theorem Tk.T3 (h : Jg n n2 hs rs cs) {ps : List Cp} (hp : Tk n n2 ps) : ∀ p ∈ ps, (0 ≤ p.1 ∧ p.1 < 6) ∧ (0 ≤ p.2.1 ∧ p.2.1 < 4) := fun p hm => by
  have := hp.2 p hm; have := h.hn; have := h.MM; omega
theorem TN (h : Jg n n2 hs rs cs) {L : List (List Bool × List Int)} (hL : KX hs rs cs L) {ps : List Cp} (hp : Tk n n2 ps) {e : List Bool × List Int} (he : e ∈ L) : ∀ p ∈ ps, MI e.1 p = WL hs cs e.2 p := fun p hm => by
  obtain ⟨h1, h2⟩ := hp.T3 h p hm
  unfold MI WL
  rw [hL.get h h1 h2 e he]
theorem RL (h : Jg n n2 hs rs cs) {ps : List Cp} (hp : Tk n n2 ps) : HF n n2 hs rs cs ps = some 0 := by
  have key : ∀ l : List Cp, (∀ p ∈ l, (0 ≤ p.1 ∧ p.1 < n) ∧ (0 ≤ p.2.1 ∧ p.2.1 < n2)) → D4 n n2 hs rs cs l = some 0 := fun l => by
    induction l with
    | nil => intro _; rfl
    | cons p l ih =>
      intro hl
      obtain ⟨h1, h2⟩ := hl p (by simp)
      unfold D4 Gn
      rw [Ts h, AJ, decide_eq_true h1, if_neg (by decide), Pw h, AJ, decide_eq_true h2, AJ, if_neg (by decide), AJ, if_neg (by decide)]
      exact ih fun q hq => hl q (by simp [hq])
  unfold HF
  have := hp.1
  rw [Q3 h, AJ, if_neg (by decide), if_neg (by omega)]
  exact key ps hp.2
theorem VR (h : Jg n n2 hs rs cs) (hc : ∃ c, Ej none rs c) {ps : List Cp} (hp : Tk n n2 ps) : ∃ L, KX hs rs cs L ∧ 1 ≤ L.length ∧ Ll n n2 hs rs cs ps = some (L, 0) := by
  obtain ⟨L, _, hL, hl, e1⟩ := SG h hc
  refine ⟨L, hL, hl, ?_⟩
  unfold Ll
  rw [RL h hp, AJ, if_neg (by decide), e1, CP]
theorem SB {met : List Bool → Option Bool} {P : List Bool × List Int → Bool} : ∀ (L : List (List Bool × List Int)), (∀ e ∈ L, met e.1 = some (P e) ∧ e.2 ≠ []) →
    (∃ e ∈ L, P e = true ∧ DX met L = some e.2) ∨ ((∀ e ∈ L, P e = false) ∧ DX met L = some [])
  | [], _ => .inr ⟨(fun _ h => nomatch h), rfl⟩
  | e :: L, hL => by
    obtain ⟨h1, h2⟩ := hL e (by simp)
    unfold DX
    rw [h1, AJ]
    by_cases e1 : P e = true
    · rw [e1, if_pos rfl, CN h2]
      exact .inl ⟨e, by simp, e1, rfl⟩
    · rw [if_neg e1]
      rcases SB L (fun e he => hL e (by simp [he])) with ⟨e2, h3, h4⟩ | ⟨h3, h4⟩
      · exact .inl ⟨e2, by simp [h3], h4⟩
      · refine .inr ⟨fun a ha => ?_, h4⟩
        rcases List.mem_cons.1 ha with rfl | ha
        · simpa using e1
        · exact h3 a ha
theorem Wr (h : Jg n n2 hs rs cs) {c : List Int} (hc : Ej none rs c) : c ≠ [] := by
  have h1 := hc.len; have := h.hr
  intro e; rw [e] at h1; simp at h1; omega
theorem Ng (h : Jg n n2 hs rs cs) (hc : ∃ c, Ej none rs c) {ps : List Cp} (hp : Tk n n2 ps) :
    (∃ c, Ej none rs c ∧ (∀ p ∈ ps, CB hs cs c p.1 p.2.1 = p.2.2) ∧ EM n n2 hs rs cs ps = some (c, 0)) ∨
    ((∀ c, Ej none rs c → ∃ p ∈ ps, CB hs cs c p.1 p.2.1 ≠ p.2.2) ∧ EM n n2 hs rs cs ps = some ([], 6)) := by
  obtain ⟨L, hL, hl, e1⟩ := VR h hc hp
  have hP : ∀ e ∈ L, (fun aa : List Bool => Ez aa ps) e.1 = some (decide (VT (MI e.1) ps 0 = [])) ∧ e.2 ≠ [] := fun e he => by
    refine ⟨?_, Wr h (hL.of e he).1⟩
    show Ez e.1 ps = _
    unfold Ez
    rw [V7 (hL.Wn h e he) (hp.T3 h) (by have := hp.1; omega), AJ]
    congr 1
    rw [decide_eq_decide]
    cases VT (MI e.1) ps 0 with
    | nil => simp
    | cons a l => simp; omega
  have ab : ∀ e ∈ L, (VT (MI e.1) ps 0 = [] ↔ ∀ p ∈ ps, CB hs cs e.2 p.1 p.2.1 = p.2.2) := fun e he => by
    rw [Se]
    refine ⟨fun hh p hm => ?_, fun hh p hm => ?_⟩
    · have := hh p hm
      rw [TN h hL hp he p hm] at this
      exact of_decide_eq_true this
    · rw [TN h hL hp he p hm]; exact decide_eq_true (hh p hm)
  unfold EM
  rw [e1, DD, if_neg (by decide)]
  unfold ET
  rcases SB (met := fun aa : List Bool => Ez aa ps) (P := fun e => decide (VT (MI e.1) ps 0 = [])) L hP with ⟨e, he, h2, h3⟩ | ⟨h2, h3⟩
  · refine .inl ⟨e.2, (hL.of e he).1, (ab e he).1 (of_decide_eq_true h2), ?_⟩
    rw [h3, AJ, if_neg (hP e he).2]
  · refine .inr ⟨fun c hc => ?_, by rw [h3, AJ, if_pos rfl]⟩
    apply Classical.byContradiction
    intro ad
    obtain ⟨e, he, h4⟩ := hL.all c hc
    have h5 := of_decide_eq_false (h2 e he)
    refine h5 ((Se _ _ _).2 fun p hm => ?_)
    obtain ⟨g1, g2⟩ := hp.T3 h p hm
    unfold MI
    rw [h4, Ly h g1 g2 hc.T3 hc.len]
    exact decide_eq_true (Classical.byContradiction fun h6 => ad ⟨p, hm, h6⟩)
theorem Uw (h : Jg n n2 hs rs cs) (hc : ∃ c, Ej none rs c) {x q : Int} (hx : 0 ≤ x ∧ x < n) (hq : 0 ≤ q ∧ q < n2) (b : Bool) :
    (∃ c, Ej none rs c ∧ CB hs cs c x q = b ∧ Fu n n2 hs rs cs x q b = some (c, 0) ∧ Hq n n2 hs rs cs x q b = some (false, 0)) ∨
    ((∀ c, Ej none rs c → CB hs cs c x q ≠ b) ∧ Fu n n2 hs rs cs x q b = some ([], 6) ∧ Hq n n2 hs rs cs x q b = some (true, 0)) := by
  have hp : Tk n n2 [(x, q, b)] := ⟨by simp, fun p hm => by rw [List.mem_singleton] at hm; subst hm; exact ⟨hx, hq⟩⟩
  rcases Ng h hc hp with ⟨c, h1, h2, h3⟩ | ⟨h1, h2⟩
  · have e1 : Fu n n2 hs rs cs x q b = some (c, 0) := by unfold Fu; rw [h3, DD]
    exact .inl ⟨c, h1, h2 _ (List.mem_singleton.2 rfl), e1, by unfold Hq; rw [e1, DD, if_pos rfl]⟩
  · have e1 : Fu n n2 hs rs cs x q b = some ([], 6) := by unfold Fu; rw [h2, DD]
    refine .inr ⟨fun c hc => ?_, e1, by unfold Hq; rw [e1, DD, if_neg (by decide), if_pos rfl]⟩
    obtain ⟨p, hm, h3⟩ := h1 c hc
    rw [List.mem_singleton] at hm; subst hm
    exact h3
theorem RY (h : Jg n n2 hs rs cs) {c : List Int} (hl : c.length = rs.length) (hc : ∀ w ∈ c, 0 ≤ w ∧ w ≤ 7) : J8 n n2 hs rs cs c = some (some (n, n2, hs, rs, cs), 0) := by
  unfold J8
  rw [R5 h, DD, if_neg (by decide), if_neg (by rw [hl]; simp), Rk (g := fun _ => true) (fun w hw => by unfold IL; rw [N4, AJ, decide_eq_true (hc w hw)]), AJ, show c.all (fun _ => true) = true by rw [List.all_eq_true]; exact fun _ _ => rfl, if_neg (by decide)]
theorem Tr (h : Jg n n2 hs rs cs) : ∀ (c : List Int) (k : Nat) (g : List Bool), (∀ w ∈ c, 0 ≤ w ∧ w ≤ 7) → g.length = 24 → Dw n n2 hs rs cs c (k : Int) g = some (Fj hs cs (k : Int) c g)
  | [], _, _, _, _ => rfl
  | w :: c, k, g, hc, hg => by
    obtain ⟨h1, h2⟩ := QC h (k : Int) (hc w (by simp)) hg
    unfold Dw
    rw [h1, AJ, show (k : Int) + 1 = ((k + 1 : Nat) : Int) by omega, Tr h c (k + 1) _ (fun x hx => hc x (by simp [hx])) h2, show ((k + 1 : Nat) : Int) = (k : Int) + 1 by omega]; rfl
theorem Tj (h : Jg n n2 hs rs cs) {c : List Int} (hc : ∀ w ∈ c, 0 ≤ w ∧ w ≤ 7) : Hy n n2 hs rs cs c = some (Fj hs cs 0 c Gf) := by
  unfold Hy
  have := Tr h c 0 Gf hc (by simp [Gf])
  have aa : Dw n n2 hs rs cs c 0 (List.replicate 24 false) = some (Fj hs cs 0 c Gf) := this
  rw [aa, AJ]
theorem Ry {a : List Bool} (ha : a.length = 24) {k N2 : Nat} (hk : k < 6) (hN : N2 ≤ 4) : ∀ (fu q : Nat) (out : List (List Int)), q + fu = N2 → k < out.length → (out.getD k []).length + fu ≤ 200 →
    ∃ R, Dd a (k : Int) fu (q : Int) out = some R ∧ R.length = out.length ∧ (∀ j, j ≠ k → R.getD j [] = out.getD j []) ∧ ∀ y : Int, y ∈ R.getD k [] ↔ y ∈ out.getD k [] ∨ ((q : Int) ≤ y ∧ y < (N2 : Int) ∧ a.getD ((k : Int) * 4 + y).toNat false = true)
  | 0, q, out, hq, _, _ => ⟨out, rfl, rfl, fun _ _ => rfl, fun y => ⟨.inl, fun h => h.elim id fun h => by omega⟩⟩
  | fu + 1, q, out, hq, aa, hl => by
    unfold Dd
    rw [CN (by omega), CN (by omega), U9 false _ (by omega) (by omega)]
    by_cases e : a.getD ((k : Int) * 4 + (q : Int)).toNat false = true
    · obtain ⟨R, g1, g2, g3, g4⟩ := Ry ha hk hN fu (q + 1) (out.set k (out.getD k [] ++ [(q : Int)])) (by omega) (by rw [List.length_set]; exact aa) (by rw [Ee aa, if_pos rfl, List.length_append, List.length_singleton]; omega)
      rw [if_pos e, YI [] _ aa, Kv (by rw [List.length_append, List.length_singleton]; omega), QO, Int.toNat_natCast, show (q : Int) + 1 = ((q + 1 : Nat) : Int) by omega]
      refine ⟨R, g1, by rw [g2, List.length_set], fun j hj => by rw [g3 j hj, Ee aa, if_neg (fun e => hj e.symm)], fun y => ?_⟩
      rw [g4 y, Ee aa, if_pos rfl, List.mem_append, List.mem_singleton]
      constructor
      · rintro ((h | rfl) | ⟨h1, h2, h3⟩)
        · exact .inl h
        · exact .inr ⟨Int.le_refl _, by omega, e⟩
        · exact .inr ⟨by omega, h2, h3⟩
      · rintro (h | ⟨h1, h2, h3⟩)
        · exact .inl (.inl h)
        · by_cases e2 : y = (q : Int)
          · exact .inl (.inr e2)
          · exact .inr ⟨by omega, h2, h3⟩
    · rw [if_neg e, show (q : Int) + 1 = ((q + 1 : Nat) : Int) by omega]
      obtain ⟨R, g1, g2, g3, g4⟩ := Ry ha hk hN fu (q + 1) out (by omega) aa (by omega)
      refine ⟨R, g1, g2, g3, fun y => ?_⟩
      rw [g4 y]
      constructor
      · rintro (h | ⟨h1, h2, h3⟩)
        · exact .inl h
        · exact .inr ⟨by omega, h2, h3⟩
      · rintro (h | ⟨h1, h2, h3⟩)
        · exact .inl h
        · refine .inr ⟨?_, h2, h3⟩
          by_cases e2 : y = (q : Int)
          · subst e2; exact absurd h3 e
          · omega
theorem Rh {a : List Bool} (ha : a.length = 24) {N N2 : Nat} (aa : N ≤ 6) (hN : N2 ≤ 4) : ∀ (fu k : Nat) (out : List (List Int)), k + fu = N → out.length = N → (∀ j, k ≤ j → out.getD j [] = []) →
    ∃ R, D1 (N2 : Int) a fu (k : Int) out = some R ∧ R.length = N ∧ (∀ j, j < k → R.getD j [] = out.getD j []) ∧ ∀ j, k ≤ j → j < N → ∀ y : Int, y ∈ R.getD j [] ↔ (0 ≤ y ∧ y < (N2 : Int) ∧ a.getD ((j : Int) * 4 + y).toNat false = true)
  | 0, k, out, hk, ho, _ => ⟨out, rfl, ho, fun _ _ => rfl, fun j h1 h2 => by omega⟩
  | fu + 1, k, out, hk, ho, hj => by
    have h0 := hj k (Nat.le_refl _)
    obtain ⟨R1, g1, g2, g3, g4⟩ := Ry ha (k := k) (N2 := N2) (by omega) hN N2 0 out (by omega) (by omega) (by rw [h0]; simp; omega)
    obtain ⟨R, f1, f2, f3, f4⟩ := Rh ha aa hN fu (k + 1) R1 (by omega) (by omega) (fun j h1 => by rw [g3 j (by omega)]; exact hj j (by omega))
    refine ⟨R, ?_, f2, fun j h1 => by rw [f3 j (by omega)]; exact g3 j (by omega), fun j h1 h2 y => ?_⟩
    · have ab : Dd a (k : Int) (Int.toNat ((N2 : Int) - 0)) 0 out = some R1 := by
        rw [show Int.toNat ((N2 : Int) - 0) = N2 by omega]; exact g1
      unfold D1
      rw [CN ⟨A9 (by omega), A9 (by omega)⟩, ab, AJ, show (k : Int) + 1 = ((k + 1 : Nat) : Int) by omega]
      exact f1
    · by_cases e : j = k
      · subst e; rw [f3 j (by omega), g4 y, h0]; simp
      · exact f4 j (by omega) h2 y
theorem WD (h : Jg n n2 hs rs cs) {c : List Int} (hl : c.length = rs.length) (hc : ∀ w ∈ c, 0 ≤ w ∧ w ≤ 7) : ∃ T, Hf n n2 hs rs cs c = some (T, 0) ∧ (T.length : Int) = n ∧ ∀ x : Int, (0 ≤ x ∧ x < n) → ∀ q : Int, (0 ≤ q ∧ q < n2) → (q ∈ T.getD x.toNat [] ↔ CB hs cs c x q = true) := by
  have hn := h.hn; have MM := h.MM
  obtain ⟨N, rfl⟩ := Int.eq_ofNat_of_zero_le (show 0 ≤ n by omega)
  obtain ⟨N2, rfl⟩ := Int.eq_ofNat_of_zero_le (show 0 ≤ n2 by omega)
  obtain ⟨R, g1, g2, _, g4⟩ := Rh (KV h c 0 Gf hc (by simp [Gf])) (N := N) (N2 := N2) (by omega) (by omega) N 0 (List.replicate N []) (by omega) (by simp) (fun j _ => by
    rw [List.getD_eq_getElem?_getD, List.getElem?_replicate]; split <;> rfl)
  refine ⟨R, ?_, by omega, fun x hx q hq => ?_⟩
  · unfold Hf
    have aa : D1 (N2 : Int) (Fj hs cs 0 c Gf) (Int.toNat (((List.replicate ((N : Int)).toNat ([] : List Int)).length : Int) - 0)) 0 (List.replicate ((N : Int)).toNat []) = some R := by
      rw [Int.toNat_natCast, List.length_replicate, show Int.toNat ((N : Int) - 0) = N by omega]; exact g1
    rw [RY h hl hc, DD, if_neg (by decide), Qy, Tj h hc, AJ, CN (by omega), QO, CN ⟨A9 (by omega), A9 (by rw [List.length_replicate]; omega)⟩, aa, AJ]
  · obtain ⟨x, rfl⟩ := Int.eq_ofNat_of_zero_le hx.1
    rw [Int.toNat_natCast, g4 x (Nat.zero_le _) (by omega) q, Ly h (by omega) (by omega) hc hl]
    exact ⟨fun h => h.2.2, fun h => ⟨hq.1, hq.2, h⟩⟩
end
end Go.Proofs.YtfmapnhfamoecaaGreat.Bk
namespace Go.Proofs.YtfmapnhfamoecaaGreat.Bk
open Go.PL
theorem WS : (W8.all fun w => ([-1, 0, 1] : List Int).all fun d => match Hi (w + d) 8 with | some v => W8.contains v && Jd v w | none => false) = true := by decide +kernel
theorem Vk {w d : Int} (hw : 0 ≤ w ∧ w ≤ 7) (hd : -1 ≤ d ∧ d ≤ 1) : ∃ v, Hi (w + d) 8 = some v ∧ (0 ≤ v ∧ v ≤ 7) ∧ Jd v w = true := by
  have h := List.all_eq_true.1 (List.all_eq_true.1 WS w (Ol.2 hw)) d (by
    have : d = -1 ∨ d = 0 ∨ d = 1 := by omega
    rcases this with rfl | rfl | rfl <;> simp)
  revert h
  cases Hi (w + d) 8 with
  | none => intro h; cases h
  | some v =>
    intro h
    rw [Bool.and_eq_true] at h
    exact ⟨v, rfl, Ol.1 (by simpa using h.1), h.2⟩
section
variable {metal : List Int}
theorem Vn (hm : (metal.length : Int) ≤ 9223372036854775807) {N : Nat} (hN : N ≤ 6) : ∀ (fu : Nat) (a t : Int) (ws : List (List Int)), HS metal a → ws.length + fu ≤ 100 → (∀ l ∈ ws, l.Nodup ∧ ∀ x ∈ l, 0 ≤ x ∧ x < (N : Int)) →
    ∃ a' t' aa, DS metal (N : Int) fu a t ws = some (a', t', aa) ∧ HS metal a' ∧ aa.length = ws.length + fu ∧ ∀ l ∈ aa, l.Nodup ∧ ∀ x ∈ l, 0 ≤ x ∧ x < (N : Int)
  | 0, a, t, ws, ha, _, hw => ⟨a, t, ws, rfl, ha, rfl, hw⟩
  | fu + 1, a, t, ws, ha, hl, hw => by
    obtain ⟨r, a1, t1, e1, ⟨h1, h2, h3⟩, ab⟩ := Xh hm (t := t) ha (n := N) (by omega)
    obtain ⟨v, a2, t2, e2, h4, h5, ad⟩ := Ir (t := t1) (n := (r.length : Int)) ab hm (by omega)
    obtain ⟨a3, t3, ae, e3, af, g1, g2⟩ := Vn hm hN fu a2 t2 (ws ++ [r.take v.toNat]) ad (by simp; omega) (fun l ah => by
      rcases List.mem_append.1 ah with h | h
      · exact hw l h
      · rw [List.mem_singleton] at h; subst h
        exact ⟨h2.sublist (List.take_sublist _ _), fun x hx => h3 x (List.mem_of_mem_take hx)⟩)
    refine ⟨a3, t3, ae, ?_, af, by rw [g1]; simp; omega, g2⟩
    unfold DS
    rw [e1, CP, e2, CP, CN ⟨⟨by omega, by omega⟩, by omega⟩, QO, Vc, Kv (by simp; omega)]
    exact e3
theorem U8 (hm : (metal.length : Int) ≤ 9223372036854775807) {N : Nat} (hN : N ≤ 6) : ∀ (fu : Nat) (a t : Int) (hs : List (List (List Int))), HS metal a → hs.length + fu ≤ 100 → (∀ w ∈ hs, w.length = 8 ∧ ∀ l ∈ w, l.Nodup ∧ ∀ x ∈ l, 0 ≤ x ∧ x < (N : Int)) →
    ∃ a' t' aa, DY metal (N : Int) fu a t hs = some (a', t', aa) ∧ HS metal a' ∧ aa.length = hs.length + fu ∧ ∀ w ∈ aa, w.length = 8 ∧ ∀ l ∈ w, l.Nodup ∧ ∀ x ∈ l, 0 ≤ x ∧ x < (N : Int)
  | 0, a, t, hs, ha, _, hw => ⟨a, t, hs, rfl, ha, rfl, hw⟩
  | fu + 1, a, t, hs, ha, hl, hw => by
    obtain ⟨a1, t1, ws, e1, ab, h1, h2⟩ := Vn hm hN 8 a t [] ha (by simp) (fun _ h => nomatch h)
    obtain ⟨a3, t3, ad, e3, ae, g1, g2⟩ := U8 hm hN fu a1 t1 (hs ++ [ws]) ab (by simp; omega) (fun w af => by
      rcases List.mem_append.1 af with h | h
      · exact hw w h
      · rw [List.mem_singleton] at h; subst h
        exact ⟨by simpa using h1, h2⟩)
    refine ⟨a3, t3, ad, ?_, ae, by rw [g1]; simp; omega, g2⟩
    unfold DY
    have ah : DS metal (N : Int) (Int.toNat (8 - 0)) a t [] = some (a1, t1, ws) := e1
    rw [CN ⟨A9 (by omega), A9 (by omega)⟩, ah, CP, Kv (by simp; omega), CP]
    exact e3
theorem U0 (hm : (metal.length : Int) ≤ 9223372036854775807) : ∀ (fu : Nat) (a t : Int) (rs : List Int) (w : Int) (real : List Int), HS metal a → (0 ≤ w ∧ w ≤ 7) → rs.length + fu ≤ 100 → Ej none rs real → (∀ v, RV none real = some v → v = w) → (∀ r ∈ rs, -1 ≤ r ∧ r ≤ 7) →
    ∃ a' t' ab aa, Di metal fu a t rs w real = some (a', t', ab, aa) ∧ HS metal a' ∧ ab.length = rs.length + fu ∧ Ej none ab aa ∧ ∀ r ∈ ab, -1 ≤ r ∧ r ≤ 7
  | 0, a, t, rs, w, real, ha, _, _, hF, _, hr => ⟨a, t, rs, real, rfl, ha, rfl, hF, hr⟩
  | fu + 1, a, t, rs, w, real, ha, hw, hl, hF, ad, hr => by
    obtain ⟨d1, a1, t1, e1, h1, h2, ah⟩ := Jc (t := t) (lo := -1) (hi := 1) ha hm (by omega) (by omega)
    obtain ⟨w1, e2, h3, h4⟩ := Vk hw (d := d1) (by omega)
    obtain ⟨d2, a2, t2, e3, h5, h6, ai⟩ := Jc (t := t1) (lo := -1) (hi := 1) ah hm (by omega) (by omega)
    obtain ⟨p, e4, h7, h8⟩ := Vk h3 (d := d2) (by omega)
    obtain ⟨b, a3, t3, e5, aj⟩ := Vq (t := t2) (n := 3) ai hm (by omega)
    have aq := hF.len
    have key : ∀ q : Int, (q = -1 ∨ q = p) → ∃ a' t' ab aa, Di metal fu a3 t3 (rs ++ [q]) w1 (real ++ [w1]) = some (a', t', ab, aa) ∧ HS metal a' ∧ ab.length = rs.length + (fu + 1) ∧ Ej none ab aa ∧ ∀ r ∈ ab, -1 ≤ r ∧ r ≤ 7 := fun q hq => by
      have af : Ic q w1 = true := by
        unfold Ic
        rcases hq with rfl | rfl
        · rfl
        · rw [PH, h8]; simp
      obtain ⟨a4, t4, ak, ae, e6, al, g1, g2, g3⟩ := U0 hm fu a3 t3 (rs ++ [q]) w1 (real ++ [w1]) aj h3 (by simp; omega) (hF.snoc h3 af (fun v hv => by rw [ad v hv]; exact h4)) (fun v hv => by rw [NA] at hv; cases hv; rfl) (fun r ao => by
        rcases List.mem_append.1 ao with h | h
        · exact hr r h
        · rw [List.mem_singleton] at h; omega)
      exact ⟨a4, t4, ak, ae, e6, al, by rw [g1]; simp; omega, g2, g3⟩
    unfold Di
    rw [e1, CP, CN (A9 (by omega)), e2, AJ, e3, CP, CN (A9 (by omega)), e4, AJ, e5, CP]
    cases b with
    | true => rw [if_pos rfl, CP, Kv (by simp; omega), Kv (by simp; omega)]; exact key (-1) (.inl rfl)
    | false => rw [if_neg (by decide), CP, Kv (by simp; omega), Kv (by simp; omega)]; exact key p (.inr rfl)
theorem Vm (hm : (metal.length : Int) ≤ 9223372036854775807) {n2 : Int} (MM : 1 ≤ n2 ∧ n2 ≤ 4) {hs : List (List (List Int))} (hh : 1 ≤ hs.length ∧ hs.length ≤ 4) {real : List Int} (hr : 1 ≤ real.length ∧ real.length ≤ 8) : ∀ (fu : Nat) (a t : Int) (cs : List (Int × Int × Int)), HS metal a → cs.length + fu ≤ 100 → (∀ c ∈ cs, (0 ≤ c.1 ∧ c.1 < (real.length : Int)) ∧ (0 ≤ c.2.1 ∧ c.2.1 < (hs.length : Int)) ∧ (0 ≤ c.2.2 ∧ c.2.2 < n2)) →
    ∃ aa a' t', DV metal n2 hs real fu a t cs = some (aa, a', t') ∧ HS metal a' ∧ aa.length = cs.length + fu ∧ ∀ c ∈ aa, (0 ≤ c.1 ∧ c.1 < (real.length : Int)) ∧ (0 ≤ c.2.1 ∧ c.2.1 < (hs.length : Int)) ∧ (0 ≤ c.2.2 ∧ c.2.2 < n2)
  | 0, a, t, cs, ha, _, hw => ⟨cs, a, t, rfl, ha, rfl, hw⟩
  | fu + 1, a, t, cs, ha, hl, hw => by
    obtain ⟨v1, a1, t1, e1, h1, h2, ab⟩ := Ir (t := t) (n := (real.length : Int) - 1) ha hm (by omega)
    obtain ⟨v2, a2, t2, e2, h3, h4, ad⟩ := Ir (t := t1) (n := (hs.length : Int) - 1) ab hm (by omega)
    obtain ⟨v3, a3, t3, e3, h5, h6, ae⟩ := Ir (t := t2) (n := n2 - 1) ad hm (by omega)
    obtain ⟨af, a4, t4, e4, ah, g1, g2⟩ := Vm hm MM hh hr fu a3 t3 (cs ++ [(v1, v2, v3)]) ae (by simp; omega) (fun c hc => by
      rcases List.mem_append.1 hc with h | h
      · exact hw c h
      · rw [List.mem_singleton] at h; subst h
        exact ⟨⟨h1, by show v1 < _; omega⟩, ⟨h3, by show v2 < _; omega⟩, h5, by show v3 < _; omega⟩)
    refine ⟨af, a4, t4, ?_, ah, by rw [g1]; simp; omega, g2⟩
    unfold DV
    rw [CN (A9 (by omega)), CN (A9 (by omega)), CN (A9 (by omega)), e1, CP, e2, CP, e3, CP, Kv (by simp; omega)]
    exact e4
structure Zi (n n2 : Int) (hs : List (List (List Int))) (rs : List Int) (cs : List (Int × Int × Int)) (real : List Int) : Prop where
  ok : Jg n n2 hs rs cs
  fit : Ej none rs real
  ZM : cs.length ≤ 6
theorem Xo {a t H N S R : Int} (ha : HS metal a) (hm : (metal.length : Int) ≤ 9223372036854775807) (hH : 1 ≤ H ∧ H ≤ 6) (hN : 1 ≤ N ∧ N ≤ 4) (hS : 1 ≤ S ∧ S ≤ 4) (hR : 1 ≤ R ∧ R ≤ 8) : ∃ n n2 hs rs cs real a' t', FL metal a t H N S R = some (n, n2, hs, rs, cs, real, a', t') ∧ Zi n n2 hs rs cs real ∧ HS metal a' := by
  obtain ⟨n, a1, t1, e1, h1, h2, ab⟩ := Jc (t := t) (lo := 1) (hi := H) ha hm (by omega) (by omega)
  obtain ⟨n2, a2, t2, e2, h3, h4, ad⟩ := Jc (t := t1) (lo := 1) (hi := N) ab hm (by omega) (by omega)
  obtain ⟨s, a3, t3, e3, h5, h6, ae⟩ := Jc (t := t2) (lo := 1) (hi := S) ad hm (by omega) (by omega)
  obtain ⟨n', rfl⟩ := Int.eq_ofNat_of_zero_le (show 0 ≤ n by omega)
  obtain ⟨s', rfl⟩ := Int.eq_ofNat_of_zero_le (show 0 ≤ s by omega)
  obtain ⟨a4, t4, hs, e4, af, h7, h8⟩ := U8 hm (N := n') (by omega) s' a3 t3 [] ae (by simp; omega) (fun _ h => nomatch h)
  obtain ⟨w, a5, t5, e5, h9, ba, ah⟩ := Ir (t := t4) (n := 7) af hm (by omega)
  obtain ⟨k, a6, t6, e6, bb, bc, ai⟩ := Jc (t := t5) (lo := 1) (hi := R) ah hm (by omega) (by omega)
  obtain ⟨k', rfl⟩ := Int.eq_ofNat_of_zero_le (show 0 ≤ k by omega)
  obtain ⟨a7, t7, rs, real, e7, aj, ak, aa, al⟩ := U0 hm k' a6 t6 [] w [] ai (by omega) (by simp; omega) trivial (fun _ h => nomatch h) (fun _ h => nomatch h)
  obtain ⟨m, a8, t8, e8, ao, bd, aq⟩ := Ir (t := t7) (n := 6) aj hm (by omega)
  obtain ⟨m', rfl⟩ := Int.eq_ofNat_of_zero_le ao
  have ar := aa.len
  rw [List.length_nil, Nat.zero_add] at h7 ak
  obtain ⟨cs, a9, t9, e9, au, av, aw⟩ := Vm hm (n2 := n2) (by omega) (hs := hs) (by omega) (real := real) (by omega) m' a8 t8 [] aq (by simp; omega) (fun _ h => nomatch h)
  rw [List.length_nil, Nat.zero_add] at av
  refine ⟨n', n2, hs, rs, cs, real, a9, t9, ?_, ⟨⟨by omega, by omega, by omega, by omega, by omega, fun w hw => (h8 w hw).1, fun w hw => (h8 w hw).2, al, fun c hc => by rw [← ar]; exact aw c hc⟩, aa, by omega⟩, au⟩
  unfold FL
  have ax : DY metal (n' : Int) (Int.toNat ((s' : Int) - 0)) a3 t3 [] = some (a4, t4, hs) := by
    rw [show Int.toNat ((s' : Int) - 0) = s' by omega]; exact e4
  have ay : Di metal (Int.toNat ((k' : Int) - 0)) a6 t6 [] w [] = some (a7, t7, rs, real) := by
    rw [show Int.toNat ((k' : Int) - 0) = k' by omega]; exact e7
  have az : DV metal n2 hs real (Int.toNat ((m' : Int) - 0)) a8 t8 [] = some (cs, a9, t9) := by
    rw [show Int.toNat ((m' : Int) - 0) = m' by omega]; exact e9
  rw [e1, CP, e2, CP, e3, CP, CN ⟨A9 (by omega), A9 (by omega)⟩, ax, CP, e5, CP, e6, CP, CN ⟨A9 (by omega), A9 (by omega)⟩, ay, XC, e8, CP, CN ⟨A9 (by omega), A9 (by omega)⟩, az, CP]
variable {n n2 : Int} {hs : List (List (List Int))} {rs : List Int} {cs : List (Int × Int × Int)}
end
section
variable {n n2 : Int} {hs : List (List (List Int))} {rs : List Int} {cs : List (Int × Int × Int)}
end
end Go.Proofs.YtfmapnhfamoecaaGreat.Bk
namespace Go.Proofs.YtfmapnhfamoecaaGreat.Bk
open Go.PL
def sm (f : Int → Nat) : List Int → Nat
  | [] => 0
  | x :: l => f x + sm f l
theorem SU (f : Int → Nat) (x : Int) (l : List Int) : sm f (x :: l) = f x + sm f l := rfl
theorem KT {f g : Int → Nat} : ∀ {l : List Int}, (∀ x ∈ l, f x = g x) → sm f l = sm g l
  | [], _ => rfl
  | x :: l, h => by
    unfold sm
    rw [h x (by simp), KT fun y hy => h y (by simp [hy])]
theorem Wf (f g : Int → Nat) : ∀ l : List Int, sm (fun x => f x + g x) l = sm f l + sm g l
  | [] => rfl
  | x :: l => by unfold sm; rw [Wf f g l]; omega
theorem Ue (c : Nat) (f : Int → Nat) : ∀ l : List Int, sm (fun x => c * f x) l = c * sm f l
  | [] => rfl
  | x :: l => by unfold sm; rw [Ue c f l, Nat.mul_add]
theorem QD : ∀ l : List Int, sm (fun _ => 0) l = 0
  | [] => rfl
  | x :: l => by unfold sm; rw [QD l]
theorem UT (f : Int → Int → Nat) : ∀ l m : List Int, sm (fun x => sm (f x) m) l = sm (fun y => sm (fun x => f x y) l) m
  | [], m => by
    show 0 = sm (fun _ => 0) m
    rw [QD]
  | x :: l, m => by
    show sm (f x) m + sm (fun x => sm (f x) m) l = sm (fun y => f x y + sm (fun x => f x y) l) m
    rw [UT f l m, Wf]
theorem PG (f : Int → Nat) (p : Int → Bool) : ∀ l : List Int, sm f (l.filter p) = sm (fun x => if p x = true then f x else 0) l
  | [] => rfl
  | x :: l => by
    by_cases h : p x = true
    · rw [List.filter_cons_of_pos h, SU, SU, PG f p l, if_pos h]
    · rw [List.filter_cons_of_neg h, SU, PG f p l, if_neg h, Nat.zero_add]
def G : List Int → Int → Nat
  | [], _ => 1
  | r :: X, w => if Ic r w = true then (match X with | [] => 1 | _ :: _ => sm (G X) (LQ w)) else 0
def S (X : List Int) (w : Int) : Nat := match X with | [] => 1 | _ :: _ => sm (G X) (LQ w)
theorem RE (r : Int) (X : List Int) (w : Int) : G (r :: X) w = if Ic r w = true then S X w else 0 := by cases X <;> rfl
theorem WG (r : Int) (X : List Int) (w : Int) : S (r :: X) w = sm (G (r :: X)) (LQ w) := rfl
def W4 (rs : List Int) (h : Nat) (w : Int) : Nat := G ((rs.take (h + 1)).reverse) w * G (rs.drop h) w
theorem Tg {rs : List Int} {h : Nat} (hh : h < rs.length) : (rs.take (h + 1)).reverse = rs.getD h 0 :: (rs.take h).reverse := by
  rw [List.take_add_one, OO (d := 0) hh]; simp
theorem Su {rs : List Int} {h : Nat} (hh : h < rs.length) : rs.drop h = rs.getD h 0 :: rs.drop (h + 1) := by
  rw [List.drop_eq_getElem_cons hh, List.getD_eq_getElem?_getD, List.getElem?_eq_getElem hh]; rfl
theorem SR {rs : List Int} {h : Nat} (hh : h < rs.length) (w : Int) : W4 rs h w = if Ic (rs.getD h 0) w = true then S ((rs.take h).reverse) w * S (rs.drop (h + 1)) w else 0 := by
  unfold W4
  rw [Tg hh, Su hh, RE, RE]
  split <;> simp
def Yf (rs : List Int) : Nat := sm (G rs) W8
theorem TL (f : Int → Nat) (w : Int) : sm f (LQ w) = sm (fun v => if Jd v w = true then f v else 0) W8 := PG f _ _
theorem WX {rs : List Int} {h : Nat} (hh : h + 1 < rs.length) : sm (W4 rs h) W8 = sm (W4 rs (h + 1)) W8 := by
  have e1 : ∀ w, W4 rs h w = sm (fun v => if Jd v w = true ∧ Ic (rs.getD h 0) w = true ∧ Ic (rs.getD (h + 1) 0) v = true then S ((rs.take h).reverse) w * S (rs.drop (h + 2)) v else 0) W8 := fun w => by
    rw [SR (by omega), Su hh, WG, TL]
    by_cases h1 : Ic (rs.getD h 0) w = true
    · rw [if_pos h1, ← Ue]
      refine KT fun v _ => ?_
      by_cases h2 : Jd v w = true
      · rw [if_pos h2, RE]
        by_cases h3 : Ic (rs.getD (h + 1) 0) v = true
        · rw [if_pos h3, if_pos ⟨h2, h1, h3⟩]
        · rw [if_neg h3, if_neg (fun h => h3 h.2.2), Nat.mul_zero]
      · rw [if_neg h2, if_neg (fun h => h2 h.1), Nat.mul_zero]
    · rw [if_neg h1]
      rw [show (fun v => if Jd v w = true ∧ Ic (rs.getD h 0) w = true ∧ Ic (rs.getD (h + 1) 0) v = true then S ((rs.take h).reverse) w * S (rs.drop (h + 2)) v else 0) = fun _ => 0 from funext fun v => if_neg (fun h => h1 h.2.1), QD]
  have e2 : ∀ v, W4 rs (h + 1) v = sm (fun w => if Jd v w = true ∧ Ic (rs.getD h 0) w = true ∧ Ic (rs.getD (h + 1) 0) v = true then S ((rs.take h).reverse) w * S (rs.drop (h + 2)) v else 0) W8 := fun v => by
    rw [SR hh, Tg (by omega), WG, TL]
    by_cases h1 : Ic (rs.getD (h + 1) 0) v = true
    · rw [if_pos h1, Nat.mul_comm, ← Ue]
      refine KT fun w _ => ?_
      by_cases h2 : Jd w v = true
      · rw [if_pos h2, RE]
        by_cases h3 : Ic (rs.getD h 0) w = true
        · rw [if_pos h3, if_pos ⟨by rw [PH]; exact h2, h3, h1⟩, Nat.mul_comm]
        · rw [if_neg h3, if_neg (fun h => h3 h.2.1), Nat.mul_zero]
      · rw [if_neg h2, if_neg (fun h => h2 (by rw [PH]; exact h.1)), Nat.mul_zero]
    · rw [if_neg h1]
      rw [show (fun w => if Jd v w = true ∧ Ic (rs.getD h 0) w = true ∧ Ic (rs.getD (h + 1) 0) v = true then S ((rs.take h).reverse) w * S (rs.drop (h + 2)) v else 0) = fun _ => 0 from funext fun v => if_neg (fun h => h1 h.2.2), QD]
  rw [KT (f := W4 rs h) fun w _ => e1 w, KT (f := W4 rs (h + 1)) fun w _ => e2 w]
  exact UT _ _ _
theorem Wc {rs : List Int} (hr : 0 < rs.length) : sm (W4 rs 0) W8 = Yf rs := by
  refine KT fun w _ => ?_
  rw [SR hr, List.take_zero]
  have : rs = rs.getD 0 0 :: rs.drop 1 := by rw [← Su hr]; rfl
  conv => rhs; rw [this]
  rw [RE]
  show (if _ then 1 * S (rs.drop 1) w else 0) = _
  rw [Nat.one_mul]
theorem UZ {rs : List Int} : ∀ {h : Nat}, h < rs.length → sm (W4 rs h) W8 = Yf rs
  | 0, hh => Wc hh
  | h + 1, hh => by rw [← WX hh]; exact UZ (by omega)
theorem Ej.take : ∀ {p : Option Int} {rs c : List Int} (k : Nat), Ej p rs c → Ej p (rs.take k) (c.take k)
  | _, [], [], 0, _ => trivial
  | _, [], [], _ + 1, _ => trivial
  | _, _ :: _, _ :: _, 0, _ => trivial
  | _, _ :: _, _ :: _, k + 1, ⟨h1, h2, h3, h4⟩ => ⟨h1, h2, h3, Ej.take k h4⟩
  | _, [], _ :: _, _, h => h.elim
  | _, _ :: _, [], _, h => h.elim
theorem Ej.Xl {p : Option Int} : ∀ {rs c : List Int}, Ej p rs c → Ej none rs c
  | [], [], _ => trivial
  | _ :: _, _ :: _, ⟨h1, h2, _, h4⟩ => ⟨h1, h2, (fun _ h => nomatch h), h4⟩
  | [], _ :: _, h => h.elim
  | _ :: _, [], h => h.elim
theorem Ej.drop : ∀ {p : Option Int} {rs c : List Int} (k : Nat), Ej p rs c → Ej none (rs.drop k) (c.drop k)
  | _, [], [], 0, _ => trivial
  | _, [], [], _ + 1, _ => trivial
  | _, _ :: _, _ :: _, 0, h => h.Xl
  | _, _ :: _, _ :: _, k + 1, ⟨_, _, _, h4⟩ => Ej.drop k h4
  | _, [], _ :: _, _, h => h.elim
  | _, _ :: _, [], _, h => h.elim
section
variable {n n2 : Int} {hs : List (List (List Int))} {rs : List Int} {cs : List (Int × Int × Int)}
end
end Go.Proofs.YtfmapnhfamoecaaGreat.Bk
namespace Go.Proofs.YtfmapnhfamoecaaGreat.Bk
open Go.PL
structure ZI (out BD : List (List Int)) (k w : Nat) (x : Int) : Prop where
  len : BD.length = out.length
  ne : ∀ j, j ≠ k → BD.getD j [] = out.getD j []
  row : (BD.getD k []).length = 8
  old : ∀ v, v ≠ w → (BD.getD k []).getD v 0 = (out.getD k []).getD v 0
  new : (BD.getD k []).getD w 0 = x
theorem ZI.set {out : List (List Int)} {k w : Nat} (hk : k < out.length) (h8 : (out.getD k []).length = 8) (hw : w < 8) (x : Int) : ZI out (out.set k ((out.getD k []).set w x)) k w x :=
  ⟨List.length_set, fun j hj => by rw [Ee hk, if_neg (fun e => hj e.symm)], by rw [Ee hk, if_pos rfl, List.length_set]; exact h8, fun v hv => by rw [Ee hk, if_pos rfl, Ee (by omega), if_neg (fun e => hv e.symm)], by rw [Ee hk, if_pos rfl, Ee (by omega), if_pos rfl]⟩
def FW (rs : List Int) (k v : Nat) : Int := (G ((rs.take (k + 1)).reverse) (v : Int) : Int)
section
variable {n n2 : Int} {hs : List (List (List Int))} {rs : List Int} {cs : List (Int × Int × Int)}
end
def Vo : List Int → List Int → Int
  | [], [] => 0
  | [], _ :: _ => -1
  | _ :: _, [] => 1
  | x :: xs, y :: ys => if x < y then -1 else if y < x then 1 else Vo xs ys
section
variable {n n2 : Int} {hs : List (List (List Int))} {rs : List Int} {cs : List (Int × Int × Int)}
end
end Go.Proofs.YtfmapnhfamoecaaGreat.Bk
namespace Go.Proofs.YtfmapnhfamoecaaGreat.Bk
open Go.PL
section
variable {n n2 : Int} {hs : List (List (List Int))} {rs : List Int} {cs : List (Int × Int × Int)}
theorem TO (h : Jg n n2 hs rs cs) : ∀ w ∈ hs, w.length = 8 ∧ ∀ x ∈ w, x.length ≤ 1000 := fun w hw => ⟨h.h8 w hw, fun x hx => by
  have h1 := h.hl w hw x hx
  have := RZ h1.1 h1.2
  have := h.hn; omega⟩
theorem Jg.set (h : Jg n n2 hs rs cs) (k : Nat) {p : Int} (hp : -1 ≤ p ∧ p ≤ 7) : Jg n n2 hs (rs.set k p) cs :=
  ⟨h.hn, h.MM, h.hh, by rw [List.length_set]; exact h.hr, h.hc, h.h8, h.hl, fun r hr => (List.mem_or_eq_of_mem_set hr).elim (h.rr r) (fun e => e ▸ hp), by rw [List.length_set]; exact h.cc⟩
def UW (rs : List Int) (k : Nat) (w : Int) : Nat := S ((rs.take k).reverse) w * S (rs.drop (k + 1)) w
theorem Xm {k : Nat} (hk : k < rs.length) (p w : Int) : W4 (rs.set k p) k w = if Ic p w = true then UW rs k w else 0 := by
  rw [SR (by rw [List.length_set]; exact hk), Ee hk, if_pos rfl]
  unfold UW
  rw [List.take_set_of_le (Nat.le_refl _), List.drop_set_of_lt (by omega)]
theorem Qu {k : Nat} (hk : k < rs.length) (p : Int) : Yf (rs.set k p) = sm (fun w => if Ic p w = true then UW rs k w else 0) W8 := by
  rw [← UZ (h := k) (by rw [List.length_set]; exact hk)]
  exact KT fun w _ => Xm hk p w
end
end Go.Proofs.YtfmapnhfamoecaaGreat.Bk
namespace Go.Proofs.YtfmapnhfamoecaaGreat.Bk
open Go.PL
theorem Qh {l : List (List Int)} (hl : ∀ x ∈ l, x.length ≤ 1000) : ∀ (tl pre : List (List Int)), l = pre ++ tl → l.length ≤ 100000 → Cb tl (pre.length : Int) (pre ++ List.replicate tl.length []) = some l
  | [], pre, he, _ => by
    unfold Cb
    rw [he]; simp
  | x :: tl, pre, he, hn => by
    have hx := hl x (by rw [he]; simp)
    have hlen : (pre ++ List.replicate (x :: tl).length ([] : List Int)).length = l.length := by rw [he]; simp
    have hp : pre.length < (pre ++ List.replicate (x :: tl).length ([] : List Int)).length := by simp
    unfold Cb
    rw [copy_eq (by omega), AJ, YI [] _ hp, QO, Int.toNat_natCast, show (pre.length : Int) + 1 = ((pre ++ [x]).length : Int) by simp]
    have e : (pre ++ List.replicate (x :: tl).length ([] : List Int)).set pre.length x = (pre ++ [x]) ++ List.replicate tl.length [] := by
      rw [List.set_append_right _ _ (Nat.le_refl _), Nat.sub_self, List.length_cons, List.replicate_succ, List.set_cons_zero, List.append_assoc]; rfl
    rw [e]
    exact Qh hl tl (pre ++ [x]) (by rw [he]; simp) hn
theorem TB {l : List (List Int)} (hl : ∀ x ∈ l, x.length ≤ 1000) (hn : l.length ≤ 100000) : ER l = some l := by
  have := Qh hl l [] rfl hn
  have aa : Cb l 0 (List.replicate ((l.length : Int)).toNat []) = some l := by
    rw [Int.toNat_natCast]; exact this
  unfold ER
  rw [CN (by omega), QO, aa, AJ]
theorem VZ {l : List (List (List Int))} (hl : ∀ w ∈ l, w.length = 8 ∧ ∀ x ∈ w, x.length ≤ 1000) : ∀ (tl pre : List (List (List Int))), l = pre ++ tl → l.length ≤ 100000 → DF tl (pre.length : Int) (pre ++ List.replicate tl.length []) = some l
  | [], pre, he, _ => by
    unfold DF
    rw [he]; simp
  | x :: tl, pre, he, hn => by
    have hx := hl x (by rw [he]; simp)
    have hp : pre.length < (pre ++ List.replicate (x :: tl).length ([] : List (List Int))).length := by simp
    unfold DF
    rw [TB hx.2 (by omega), AJ, YI [] _ hp, QO, Int.toNat_natCast, show (pre.length : Int) + 1 = ((pre ++ [x]).length : Int) by simp]
    have e : (pre ++ List.replicate (x :: tl).length ([] : List (List Int))).set pre.length x = (pre ++ [x]) ++ List.replicate tl.length [] := by
      rw [List.set_append_right _ _ (Nat.le_refl _), Nat.sub_self, List.length_cons, List.replicate_succ, List.set_cons_zero, List.append_assoc]; rfl
    rw [e]
    exact VZ hl tl (pre ++ [x]) (by rw [he]; simp) hn
section
variable {n n2 : Int} {hs : List (List (List Int))} {rs : List Int} {cs : List (Int × Int × Int)}
theorem Yc (h : Jg n n2 hs rs cs) : IM n n2 hs rs cs = some (n, n2, hs, rs, cs) := by
  have h1 := h.hh; have h2 := h.hr; have h3 := h.hc
  have := VZ (TO h) hs [] rfl (by omega)
  have aa : DF hs 0 (List.replicate ((hs.length : Int)).toNat []) = some hs := by
    rw [Int.toNat_natCast]; exact this
  unfold IM
  rw [CN (by omega), QO, aa, AJ, copy_eq (by omega), AJ, Wm (by omega), AJ]
theorem Jg.more (h : Jg n n2 hs rs cs) {xs : List (Int × Int × Int)} (hl : cs.length + xs.length ≤ 12) (hx : ∀ c ∈ xs, (0 ≤ c.1 ∧ c.1 < (rs.length : Int)) ∧ (0 ≤ c.2.1 ∧ c.2.1 < (hs.length : Int)) ∧ (0 ≤ c.2.2 ∧ c.2.2 < n2)) : Jg n n2 hs rs (cs ++ xs) :=
  ⟨h.hn, h.MM, h.hh, h.hr, by rw [List.length_append]; exact hl, h.h8, h.hl, h.rr, fun c hc => (List.mem_append.1 hc).elim (h.cc c) (hx c)⟩
theorem QM (cs xs : List (Int × Int × Int)) (c : List Int) (x q : Int) : CB hs (cs ++ xs) c x q = (CB hs cs c x q || CB hs xs c x q) := by unfold CB; rw [List.any_append]
end
end Go.Proofs.YtfmapnhfamoecaaGreat.Bk
