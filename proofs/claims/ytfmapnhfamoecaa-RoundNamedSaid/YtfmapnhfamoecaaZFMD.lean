/- The best round, and sets of pairs; in plain Lean. -/
import Derived.Test.YtfmapnhfamoecaaZFMC
namespace Go.Proofs.Ytfmapnhfamoecaa.Rd
open Go.PL
def bdL (ns : List (List Int × Int × Int)) (last : Int) (n : Nat) : Int := if (ns.getD n ([], 0, 0)).2.2 < last then (ns.getD n ([], 0, 0)).2.2 else last
theorem bdL_le {ns : List (List Int × Int × Int)} {last : Int} (hl : last ≤ 1000) (n : Nat) : bdL ns last n ≤ 1000 := by unfold bdL; split <;> omega
section
variable {ws hs : List (List Int)} {H st : Int} {ns : List (List Int × Int × Int)} {c : List Int} {ps : List (Int × Int)} {hit : List Int}
def Ser (c : List Int) (ns : List (List Int × Int × Int)) (hit : List Int) (hs : List (List Int)) (st : Int) (bd : Nat → Int) (v : Nat) (l : List (Int × Int)) (t : Int) : Prop := ∃ s, Pth c ns hit bd hs.length st v l s 0 t
theorem by_ok (last : Int) : ∀ (n : Nat) (m : Int), n < ns.length → (fun xx_ : Int × Int => round_crier_by_1 xx_.1 xx_.2 last ws hs H st ns c ps hit) ((n : Int), m) = some (decide (m ≤ bdL ns last n)) := fun n m hn => by
  show round_crier_by_1 (n : Int) m last ws hs H st ns c ps hit = _
  unfold round_crier_by_1
  rw [ixN ([], 0, 0) _ hn]
  rfl
theorem all_eq (hp : ps.length ≤ 9) : round_crier_all ws hs H st ns c ps hit = some ((2 ^ ps.length - 1 : Nat) : Int) := by
  have h1 : 1 ≤ (2 : Nat) ^ ps.length := Nat.one_le_two_pow
  have h2 : (2 : Nat) ^ ps.length ≤ 2 ^ 9 := Nat.pow_le_pow_right (by decide) hp
  have h3 : (2 : Nat) ^ 9 = 512 := by decide
  have h4 : (((2 : Nat) ^ ps.length : Nat) : Int) - 1 = ((2 ^ ps.length - 1 : Nat) : Int) := by omega
  unfold round_crier_all
  rw [gd_t (shl_r (by omega)), shl_nat, h4, gd_t (r64_small (by omega))]
theorem CrOK.nine (h : BtOK ws hs H st ns) (hc : CrOK hs ns c ps hit) : ps.length ≤ 9 := by
  have h1 := hc.prs.len
  have h2 := total_take ns ns.length
  have h3 := h.tot
  omega
theorem full_lt (hp : ps.length ≤ 9) : 2 ^ ps.length - 1 < 512 := by
  have h1 : 1 ≤ (2 : Nat) ^ ps.length := Nat.one_le_two_pow
  have h2 : (2 : Nat) ^ ps.length ≤ 2 ^ 9 := Nat.pow_le_pow_right (by decide) hp
  have h3 : (2 : Nat) ^ 9 = 512 := by decide
  omega
theorem Best_eq (h : BtOK ws hs H st ns) (e : round_opened ws hs H st ns = some (some (ws, hs, H, st, ns, c, ps, hit), 0)) (hc : CrOK hs ns c ps hit) :
    (round_Best ws hs H st ns = some ([], 0, 6) ∧ ∀ l t, ¬ Ser c ns hit hs st (bdL ns 200) (2 ^ ps.length - 1) l t) ∨
    ∃ l t, round_Best ws hs H st ns = some (l, t, 0) ∧ Ser c ns hit hs st (bdL ns 200) (2 ^ ps.length - 1) l t ∧ ∀ l' t', Ser c ns hit hs st (bdL ns 200) (2 ^ ps.length - 1) l' t' → t ≤ t' := by
  have hp := hc.nine h
  unfold round_Best round_crier_hours round_crier_by
  rw [e, b2_some, if_neg (by decide), b8_some, all_eq hp, b1_some, b1_some, b1_some]
  rcases serve_eq h hc (bd := bdL ns 200) (ok := fun xx_ : Int × Int => round_crier_by_1 xx_.1 xx_.2 200 ws hs H st ns c ps hit) (bdL_le (by decide)) (by_ok 200) (full_lt hp) with ⟨e1, h1⟩ | ⟨l, s, t, e1, h1, h2⟩
  · rw [e1, b3_some, if_pos (by decide)]
    exact .inl ⟨rfl, fun l t ⟨s, hs'⟩ => h1 l s t hs'⟩
  · rw [e1, b3_some, if_neg (by decide)]
    exact .inr ⟨l, t, rfl, ⟨s, h1⟩, fun l' t' ⟨s', hs'⟩ => h2 l' s' t' hs'⟩
end
end Go.Proofs.Ytfmapnhfamoecaa.Rd
namespace Go.Proofs.Ytfmapnhfamoecaa.Rd
open Go.PL
def endsF (c : List Int) (ns : List (List Int × Int × Int)) : Int → Int → List (Int × Int) → Option (List Int)
  | _, _, [] => some []
  | k, m, x :: l => if en c k.toNat x.1.toNat = -1 then none else (endsF c ns x.1 (m + en c k.toNat x.1.toNat + wrd ns x.2.toNat) l).map ((m + en c k.toNat x.1.toNat + wrd ns x.2.toNat) :: ·)
def CryOK (S N : Nat) (l : List (Int × Int)) : Prop := ∀ x ∈ l, (0 ≤ x.1 ∧ x.1 < (S : Int)) ∧ (0 ≤ x.2 ∧ x.2 < (N : Int))
section
variable {ws hs : List (List Int)} {H st : Int} {ns : List (List Int × Int × Int)} {c : List Int} {ps : List (Int × Int)} {hit : List Int}
end
end Go.Proofs.Ytfmapnhfamoecaa.Rd
namespace Go.Proofs.Ytfmapnhfamoecaa.Rd
open Go.PL
def plc (k : Int) (l : List (Int × Int)) : Int := (l.map (·.1)).getLastD k
theorem plc_snoc (k : Int) (l : List (Int × Int)) (x : Int × Int) : plc k (l ++ [x]) = x.1 := by unfold plc; simp
section
variable {c : List Int} {ns : List (List Int × Int × Int)} {hit : List Int} {bd : Nat → Int} {S : Nat} {start : Int} {v0 : Nat}
theorem ends_snoc {x : Int × Int} : ∀ (l : List (Int × Int)) (k m : Int) (es : List Int), endsF c ns k m l = some es →
    endsF c ns k m (l ++ [x]) = if en c (plc k l).toNat x.1.toNat = -1 then none else some (es ++ [es.getLastD m + en c (plc k l).toNat x.1.toNat + wrd ns x.2.toNat])
  | [], k, m, es, h => by
    obtain rfl : [] = es := Option.some.inj h
    simp only [List.nil_append, endsF, plc, List.map_nil, List.getLastD_nil]
    rfl
  | y :: l, k, m, es, h => by
    unfold endsF at h
    by_cases e : en c k.toNat y.1.toNat = -1
    · rw [if_pos e] at h; cases h
    · rw [if_neg e] at h
      cases h2 : endsF c ns y.1 (m + en c k.toNat y.1.toNat + wrd ns y.2.toNat) l with
      | none => rw [h2] at h; cases h
      | some es2 =>
        rw [h2] at h
        obtain rfl := Option.some.inj h
        have ih := ends_snoc (x := x) l y.1 _ es2 h2
        have ep : plc k (y :: l) = plc y.1 l := by unfold plc; rw [List.map_cons, List.getLastD_cons]
        have el : ((m + en c k.toNat y.1.toNat + wrd ns y.2.toNat) :: es2).getLastD m = es2.getLastD (m + en c k.toNat y.1.toNat + wrd ns y.2.toNat) := by rw [List.getLastD_cons]
        rw [List.cons_append]
        show endsF c ns k m (y :: (l ++ [x])) = _
        unfold endsF
        rw [if_neg e, ih, ep, el]
        by_cases e2 : en c (plc y.1 l).toNat x.1.toNat = -1
        · rw [if_pos e2, if_pos e2]; rfl
        · rw [if_neg e2, if_neg e2]; rfl
theorem Pth.ends {l : List (Int × Int)} {s : Int} {v : Nat} {t : Int} (h : Pth c ns hit bd S start v0 l s v t) : ∃ es, endsF c ns start 0 l = some es ∧ es.getLastD 0 = t ∧ plc start l = s ∧ CryOK S ns.length l ∧ es.length = l.length := by
  induction h with
  | nil => exact ⟨[], rfl, rfl, rfl, fun x hx => (nomatch hx), rfl⟩
  | @snoc l k v s n t h hk hs hn hne hv ih =>
    obtain ⟨es, e1, e2, e3, e4, e5⟩ := ih
    have q := ends_snoc (x := ((s : Int), (n : Int))) l start 0 es e1
    rw [e3, e2, Int.toNat_natCast, Int.toNat_natCast, Int.toNat_natCast, if_neg hv.1] at q
    refine ⟨_, q, by simp, plc_snoc .., fun x hx => ?_, by simp [e5]⟩
    rcases List.mem_append.1 hx with hx | hx
    · exact e4 x hx
    · rw [List.mem_singleton.1 hx]
      exact ⟨⟨by show 0 ≤ (s : Int); omega, by show (s : Int) < (S : Int); omega⟩, ⟨by show 0 ≤ (n : Int); omega, by show (n : Int) < (ns.length : Int); omega⟩⟩
end
end Go.Proofs.Ytfmapnhfamoecaa.Rd
namespace Go.Proofs.Ytfmapnhfamoecaa.Rd
open Go.PL
def remF (c : List Int) (ns : List (List Int × Int × Int)) (hit : List Int) (bd : Nat → Int) : Int → Int → Nat → List (Int × Int) → Nat
  | _, _, v, [] => v
  | k, m, v, x :: l => remF c ns hit bd x.1 (m + en c k.toNat x.1.toNat + wrd ns x.2.toNat) (if m + en c k.toNat x.1.toNat + wrd ns x.2.toNat ≤ bd x.2.toNat then dif v (hb hit x.1.toNat x.2.toNat) else v) l
section
variable {c : List Int} {ns : List (List Int × Int × Int)} {hit : List Int} {bd : Nat → Int} {S : Nat} {start : Int} {v0 : Nat} {H : Int}
theorem shorten (hc : Fin5 S c) (hS : S ≤ 5) (hw : ∀ x ∈ ns, NOK H x) : ∀ (l : List (Int × Int)) (k m : Int) (v s : Nat) (t : Int) (lp : List (Int × Int)) (es : List Int), CryOK S ns.length l → (0 ≤ k ∧ k < (S : Int)) → endsF c ns k m l = some es → Pth c ns hit bd S start v0 lp (s : Int) v t → s < S → en c s k.toNat ≠ -1 → t + en c s k.toNat ≤ m →
    ∃ lp' s' t', Pth c ns hit bd S start v0 lp' s' (remF c ns hit bd k m v l) t' ∧ t' ≤ es.getLastD m
  | [], k, m, v, s, t, lp, es, _, hk, he, hp, hs, h1, h2 => by
    obtain rfl : [] = es := Option.some.inj he
    have := hc.rng s k.toNat (by omega) (by omega)
    exact ⟨lp, s, t, hp, by show t ≤ m; omega⟩
  | x :: l, k, m, v, s, t, lp, es, hl, hk, he, hp, hs, h1, h2 => by
    obtain ⟨a1, a2⟩ := hl x (by simp)
    unfold endsF at he
    by_cases e : en c k.toNat x.1.toNat = -1
    · rw [if_pos e] at he; cases he
    · rw [if_neg e] at he
      cases h3 : endsF c ns x.1 (m + en c k.toNat x.1.toNat + wrd ns x.2.toNat) l with
      | none => rw [h3] at he; cases he
      | some es2 =>
        rw [h3] at he
        obtain rfl := Option.some.inj he
        have hN := (hw _ (getD_mem (d := ([], 0, 0)) (i := x.2.toNat) (by omega))).2.1
        have hwr : 1 ≤ wrd ns x.2.toNat ∧ wrd ns x.2.toNat ≤ 5 := hN
        obtain ⟨t1, t2⟩ := hc.tri s k.toNat x.1.toNat (by omega) (by omega) (by omega) h1 e
        have hr := hc.rng k.toNat x.1.toNat (by omega) (by omega)
        have hl' : CryOK S ns.length l := fun z hz => hl z (by simp [hz])
        have hgl : ((m + en c k.toNat x.1.toNat + wrd ns x.2.toNat) :: es2).getLastD m = es2.getLastD (m + en c k.toNat x.1.toNat + wrd ns x.2.toNat) := by rw [List.getLastD_cons]
        show ∃ lp' s' t', Pth c ns hit bd S start v0 lp' s' (remF c ns hit bd k m v (x :: l)) t' ∧ t' ≤ ((m + en c k.toNat x.1.toNat + wrd ns x.2.toNat) :: es2).getLastD m
        rw [hgl]
        unfold remF
        by_cases b : m + en c k.toNat x.1.toNat + wrd ns x.2.toNat ≤ bd x.2.toNat
        · rw [if_pos b]
          by_cases d : dif v (hb hit x.1.toNat x.2.toNat) = v
          · rw [d]
            exact shorten hc hS hw l x.1 _ v s t lp es2 hl' a1 h3 hp hs t1 (by omega)
          · have hp' := Pth.snoc hp hs (s := x.1.toNat) (n := x.2.toNat) (by omega) (by omega) d ⟨t1, by omega⟩
            have hd := hc.shp.diag x.1.toNat (by omega) (by omega)
            exact shorten hc hS hw l x.1 _ _ x.1.toNat _ _ es2 hl' a1 h3 hp' (by omega) (by omega) (by omega)
        · rw [if_neg b]
          exact shorten hc hS hw l x.1 _ v s t lp es2 hl' a1 h3 hp hs t1 (by omega)
theorem shorten0 {ws hs : List (List Int)} {st : Int} {ps : List (Int × Int)} (h : BtOK ws hs H st ns) (hc : CrOK hs ns c ps hit) {l : List (Int × Int)} {es : List Int} {v : Nat} (hl : CryOK hs.length ns.length l) (he : endsF c ns st 0 l = some es) (hr : remF c ns hit bd st 0 v l = 0) : ∃ l' t, Ser c ns hit hs st bd v l' t ∧ t ≤ es.getLastD 0 := by
  have h1 := h.hst
  have h5 := h.hs1.2
  have hp : Pth c ns hit bd hs.length st v [] ((st.toNat : Nat) : Int) v 0 := by
    rw [show ((st.toNat : Nat) : Int) = st by omega]; exact .nil
  have hd := hc.fin.shp.diag st.toNat (by omega) (by omega)
  obtain ⟨l', s', t', h2, h3⟩ := shorten hc.fin h5 h.note l st 0 v st.toNat 0 [] es hl h1 he hp (by omega) (by omega) (by omega)
  rw [hr] at h2
  exact ⟨l', t', ⟨s', h2⟩, h3⟩
end
end Go.Proofs.Ytfmapnhfamoecaa.Rd
namespace Go.Proofs.Ytfmapnhfamoecaa.Rd
open Go.PL
def hitF (c : List Int) (ns : List (List Int × Int × Int)) (hit : List Int) (bd : Nat → Int) : Int → Int → List (Int × Int) → Nat → Bool
  | _, _, [], _ => false
  | k, m, x :: l, p => (decide (m + en c k.toNat x.1.toNat + wrd ns x.2.toNat ≤ bd x.2.toNat) && (hb hit x.1.toNat x.2.toNat).testBit p) || hitF c ns hit bd x.1 (m + en c k.toNat x.1.toNat + wrd ns x.2.toNat) l p
section
variable {c : List Int} {ns : List (List Int × Int × Int)} {hit : List Int} {bd bd' : Nat → Int} {S : Nat} {start : Int} {v0 : Nat} {H : Int}
theorem bit_rem : ∀ (l : List (Int × Int)) (k m : Int) (v p : Nat), (remF c ns hit bd k m v l).testBit p = (v.testBit p && !hitF c ns hit bd k m l p)
  | [], k, m, v, p => by simp [remF, hitF]
  | x :: l, k, m, v, p => by
    unfold remF hitF
    rw [bit_rem l]
    by_cases b : m + en c k.toNat x.1.toNat + wrd ns x.2.toNat ≤ bd x.2.toNat
    · rw [if_pos b, decide_eq_true b, bit_dif, Bool.true_and, Bool.not_or, Bool.and_assoc]
    · rw [if_neg b, decide_eq_false b, Bool.false_and, Bool.false_or]
theorem rem_zero {l : List (Int × Int)} {k m : Int} {v : Nat} : remF c ns hit bd k m v l = 0 ↔ ∀ p, v.testBit p = true → hitF c ns hit bd k m l p = true := by
  constructor
  · intro h p hp
    have := bit_rem (c := c) (ns := ns) (hit := hit) (bd := bd) l k m v p
    rw [h, Nat.zero_testBit, hp, Bool.true_and] at this
    cases e : hitF c ns hit bd k m l p with
    | true => rfl
    | false => rw [e] at this; cases this
  · intro h
    refine Nat.eq_of_testBit_eq fun p => ?_
    rw [bit_rem, Nat.zero_testBit]
    cases e : v.testBit p with
    | false => rfl
    | true => rw [h p e]; rfl
theorem rem_snoc {x : Int × Int} : ∀ (l : List (Int × Int)) (k m : Int) (v : Nat) (es : List Int), endsF c ns k m l = some es →
    remF c ns hit bd k m v (l ++ [x]) = if es.getLastD m + en c (plc k l).toNat x.1.toNat + wrd ns x.2.toNat ≤ bd x.2.toNat then dif (remF c ns hit bd k m v l) (hb hit x.1.toNat x.2.toNat) else remF c ns hit bd k m v l
  | [], k, m, v, es, h => by
    obtain rfl : [] = es := Option.some.inj h
    simp only [List.nil_append, remF, plc, List.map_nil, List.getLastD_nil]
  | y :: l, k, m, v, es, h => by
    unfold endsF at h
    by_cases e : en c k.toNat y.1.toNat = -1
    · rw [if_pos e] at h; cases h
    · rw [if_neg e] at h
      cases h2 : endsF c ns y.1 (m + en c k.toNat y.1.toNat + wrd ns y.2.toNat) l with
      | none => rw [h2] at h; cases h
      | some es2 =>
        rw [h2] at h
        obtain rfl := Option.some.inj h
        have ep : plc k (y :: l) = plc y.1 l := by unfold plc; rw [List.map_cons, List.getLastD_cons]
        have el : ((m + en c k.toNat y.1.toNat + wrd ns y.2.toNat) :: es2).getLastD m = es2.getLastD (m + en c k.toNat y.1.toNat + wrd ns y.2.toNat) := by rw [List.getLastD_cons]
        rw [List.cons_append]
        show remF c ns hit bd k m v (y :: (l ++ [x])) = _
        unfold remF
        rw [rem_snoc (x := x) l y.1 _ _ es2 h2, ep]
        show _ = if ((m + en c k.toNat y.1.toNat + wrd ns y.2.toNat) :: es2).getLastD m + _ + _ ≤ _ then _ else _
        rw [el]
theorem Pth.rem {l : List (Int × Int)} {s : Int} {v : Nat} {t : Int} (h : Pth c ns hit bd S start v0 l s v t) : remF c ns hit bd start 0 v0 l = v := by
  induction h with
  | nil => rfl
  | @snoc l k v s n t h hk hs hn hne hv ih =>
    obtain ⟨es, e1, e2, e3, e4, e5⟩ := h.ends
    rw [rem_snoc l start 0 v0 es e1, e3, e2, ih, Int.toNat_natCast, Int.toNat_natCast, Int.toNat_natCast, if_pos hv.2]
theorem hit_mono (hbd : ∀ n, n < ns.length → bd n ≤ bd' n) {p : Nat} : ∀ (l : List (Int × Int)) (k m : Int), CryOK S ns.length l → hitF c ns hit bd k m l p = true → hitF c ns hit bd' k m l p = true
  | [], _, _, _, h => h
  | x :: l, k, m, hl, h => by
    unfold hitF at h ⊢
    rw [Bool.or_eq_true_iff, Bool.and_eq_true_iff, decide_eq_true_iff] at h ⊢
    obtain ⟨_, h2⟩ := hl x (by simp)
    rcases h with ⟨h3, h4⟩ | h3
    · exact .inl ⟨Int.le_trans h3 (hbd _ (by omega)), h4⟩
    · exact .inr (hit_mono hbd l _ _ (fun z hz => hl z (by simp [hz])) h3)
theorem countP_lt {α : Type} {p q : α → Bool} : ∀ {l : List α}, (∀ x ∈ l, q x = true → p x = true) → (∃ x ∈ l, p x = true ∧ q x = false) → l.countP q < l.countP p
  | [], _, ⟨x, hx, _⟩ => nomatch hx
  | y :: l, h, ⟨x, hx, h1, h2⟩ => by
    have hle : l.countP q ≤ l.countP p := List.countP_mono_left fun z hz => h z (by simp [hz])
    rw [List.countP_cons, List.countP_cons]
    rcases List.mem_cons.1 hx with rfl | hx
    · rw [h1, h2]; simp; omega
    · have ih := countP_lt (l := l) (fun z hz => h z (by simp [hz])) ⟨x, hx, h1, h2⟩
      cases hq : q y with
      | true => rw [h y (by simp) hq]; omega
      | false =>
        have : (if false = true then 1 else 0) = 0 := by simp
        rw [this]
        omega
def cnt (v : Nat) : Nat := (List.range 9).countP fun i => v.testBit i
theorem Pth.le {l : List (Int × Int)} {s : Int} {v : Nat} {t : Int} (h : Pth c ns hit bd S start v0 l s v t) : v ≤ v0 := by
  have := h.len; omega
end
section
variable {ws hs : List (List Int)} {H st : Int} {ns : List (List Int × Int × Int)} {c : List Int} {ps : List (Int × Int)} {hit : List Int} {bd bd' : Nat → Int} {v v' : Nat}
def Can (c : List Int) (ns : List (List Int × Int × Int)) (hit : List Int) (hs : List (List Int)) (st : Int) (bd : Nat → Int) (v : Nat) : Prop := ∃ l es, CryOK hs.length ns.length l ∧ endsF c ns st 0 l = some es ∧ remF c ns hit bd st 0 v l = 0
theorem Ser.can {l : List (Int × Int)} {t : Int} (h : Ser c ns hit hs st bd v l t) : ∃ es, CryOK hs.length ns.length l ∧ endsF c ns st 0 l = some es ∧ remF c ns hit bd st 0 v l = 0 ∧ es.getLastD 0 = t ∧ es.length = l.length := by
  obtain ⟨s, h⟩ := h
  obtain ⟨es, e1, e2, e3, e4, e5⟩ := h.ends
  exact ⟨es, e4, e1, h.rem, e2, e5⟩
theorem can_iff (h : BtOK ws hs H st ns) (hc : CrOK hs ns c ps hit) : Can c ns hit hs st bd v ↔ ∃ l t, Ser c ns hit hs st bd v l t := by
  constructor
  · rintro ⟨l, es, h1, h2, h3⟩
    obtain ⟨l', t, h4, _⟩ := shorten0 h hc h1 h2 h3
    exact ⟨l', t, h4⟩
  · rintro ⟨l, t, h1⟩
    obtain ⟨es, h2, h3, h4, _⟩ := h1.can
    exact ⟨l, es, h2, h3, h4⟩
theorem Can.mono (h : Can c ns hit hs st bd v) (hbd : ∀ n, n < ns.length → bd n ≤ bd' n) (hv : ∀ p, v'.testBit p = true → v.testBit p = true) : Can c ns hit hs st bd' v' := by
  obtain ⟨l, es, h1, h2, h3⟩ := h
  exact ⟨l, es, h1, h2, rem_zero.2 fun p hp => hit_mono hbd l _ _ h1 (rem_zero.1 h3 p (hv p hp))⟩
theorem Can.zero : Can c ns hit hs st bd 0 := ⟨[], [], fun _ h => (nomatch h), rfl, rfl⟩
end
end Go.Proofs.Ytfmapnhfamoecaa.Rd
namespace Go.Proofs.Ytfmapnhfamoecaa.Rd
open Go.PL Go.Proofs.Ytfmapnhfamoecaa.Rv
theorem bit_nat {x : Nat} (hx : x < 9223372036854775808) (k : Nat) : band (shr (x : Int) (k : Int)) 1 = if x.testBit k then 1 else 0 := by
  have e : shr (x : Int) (k : Int) = ((x >>> k : Nat) : Int) := by
    unfold shr
    rw [Int.toNat_natCast, Nat.shiftRight_eq_div_pow]
    norm_cast
  have h1 : x >>> k ≤ x := by rw [Nat.shiftRight_eq_div_pow]; exact Nat.div_le_self _ _
  have h2 : band ((x >>> k : Nat) : Int) 1 = ((x >>> k &&& 1 : Nat) : Int) := band_nat (y := 1) (by omega) (by decide)
  rw [e, h2, Nat.testBit, Nat.and_comm]
  have h3 : 1 &&& x >>> k ≤ 1 := Nat.and_le_left
  generalize 1 &&& x >>> k = z at h3
  rcases Nat.le_one_iff_eq_zero_or_eq_one.1 h3 with rfl | rfl <;> rfl
theorem bit_one {x : Nat} (hx : x < 9223372036854775808) (k : Nat) : (band (shr (x : Int) (k : Int)) 1 = 1) ↔ x.testBit k = true := by
  rw [bit_nat hx]; split <;> simp_all
theorem pow_nine {P : Nat} (hp : P ≤ 9) : (2 : Nat) ^ P ≤ 512 := by
  have h2 : (2 : Nat) ^ P ≤ 2 ^ 9 := Nat.pow_le_pow_right (by decide) hp
  have h3 : (2 : Nat) ^ 9 = 512 := by decide
  omega
theorem filter_up : ∀ (n f : Nat) (T : List Nat), Up (f + n) f T → (List.range' f n).filter (fun i => decide (i ∈ T)) = T
  | 0, f, [], _ => rfl
  | 0, f, i :: T, h => by
    have := (Up.cons.1 h).1; omega
  | n + 1, f, T, h => by
    rw [List.range'_succ, List.filter_cons]
    cases T with
    | nil => simp
    | cons i T =>
      obtain ⟨h1, h2⟩ := Up.cons.1 h
      by_cases e : i = f
      · subst e
        rw [if_pos (by simp)]
        congr 1
        have ih := filter_up n (i + 1) T (by rw [show i + 1 + n = i + (n + 1) by omega]; exact h2)
        refine Eq.trans ?_ ih
        refine List.filter_congr fun x hx => ?_
        rw [List.mem_range'] at hx
        obtain ⟨j, hj, rfl⟩ := hx
        rw [decide_eq_decide, List.mem_cons]
        exact ⟨fun h => h.resolve_left (by omega), .inr⟩
      · have hn : f ∉ i :: T := fun hf => by
          rcases List.mem_cons.1 hf with rfl | hf
          · exact e rfl
          · have := (h2.2 f hf).1; omega
        rw [if_neg (by simpa using hn)]
        exact filter_up n (f + 1) (i :: T) (by rw [show f + 1 + n = f + (n + 1) by omega]; exact Up.cons.2 ⟨by omega, h2⟩)
section
variable {ws hs : List (List Int)} {H st : Int} {ns : List (List Int × Int × Int)} {c : List Int} {ps : List (Int × Int)} {hit : List Int} {bd : Nat → Int} {ok : Int × Int → Option Bool} {D : Nat → Bool}
theorem serve_D (h : BtOK ws hs H st ns) (hc : CrOK hs ns c ps hit) (hbd : ∀ n, bd n ≤ 1000) (hok : ∀ (n : Nat) (m : Int), n < ns.length → ok ((n : Int), m) = some (decide (m ≤ bd n))) (hD : ∀ v, D v = true ↔ Can c ns hit hs st bd v) {v : Nat} (hv : v < 512) :
    ∃ l t, round_crier_serve ws hs H st ns c ps hit (v : Int) ok = some (l, t, D v) := by
  rcases serve_eq h hc hbd hok hv with ⟨e, h1⟩ | ⟨l, s, t, e, h1, _⟩
  · refine ⟨[], 0, ?_⟩
    rw [e]
    cases hd : D v with
    | false => rfl
    | true =>
      obtain ⟨l, t, s, h2⟩ := (can_iff h hc).1 ((hD v).1 hd)
      exact absurd h2 (h1 l s t)
  · refine ⟨l, t, ?_⟩
    rw [e, (hD v).2 ((can_iff h hc).2 ⟨l, t, s, h1⟩)]
def tld (o : Option (List Nat)) (set : Nat) (found : Int) : Bool × Int := match o with | some T => (true, (setL T set : Int)) | none => (false, found)
theorem exc_l2 {P : Nat} {set m : Nat} (hP : P = ps.length) (h9 : P ≤ 9) (hset : set < 2 ^ P) (hm : m < 1000) {rec_ : Int → Int → Int → List (List Int) → List (List Int) → Int → Int → List (List Int × Int × Int) → List Int → List (Int × Int) → List Int → (Int × Int → Option Bool) → Int → Option (Bool × Int)}
    (hrec : ∀ (set i : Nat) (found : Int), set < 2 ^ P → i ≤ P → rec_ (set : Int) (i : Int) (m : Int) ws hs H st ns c ps hit ok found = some (tld ((combs P m i).find? fun T => !D (setL T set)) set found)) : ∀ (fu i : Nat) (found : Int), i + fu = P →
    round_crier_excludes_1B_l2 (set : Int) ((m + 1 : Nat) : Int) ws hs H st ns c ps hit ok rec_ fu (i : Int) found = some (tld (((List.range' i fu).flatMap fun i => (combs P m (i + 1)).map (i :: ·)).find? fun T => !D (setL T set)) set found)
  | 0, i, found, _ => rfl
  | fu + 1, i, found, hi => by
    have h2 := pow_nine h9
    have hpow : (2 : Nat) ^ i < 2 ^ P := Nat.pow_lt_pow_right (by decide) (by omega)
    have hlt : set ||| 2 ^ i < 2 ^ P := Nat.or_lt_two_pow hset hpow
    have ef : List.find? (fun T => !D (setL T set)) ((combs P m (i + 1)).map (i :: ·)) = ((combs P m (i + 1)).find? fun T => !D (setL T (set ||| 2 ^ i))).map (i :: ·) := by
      rw [List.find?_map]; rfl
    unfold round_crier_excludes_1B_l2
    rw [gd_t (shl_r (by omega)), gd_t (r64_small (by omega)), shl_nat, bor_nat (by omega) (by omega), show ((m + 1 : Nat) : Int) - 1 = (m : Int) by omega, show (i : Int) + 1 = ((i + 1 : Nat) : Int) from rfl, hrec _ _ _ hlt (by omega), List.range'_succ, List.flatMap_cons, List.find?_append, ef]
    cases hf : (combs P m (i + 1)).find? fun T => !D (setL T (set ||| 2 ^ i)) with
    | some T => rfl
    | none =>
      show round_crier_excludes_1B_l2 (set : Int) ((m + 1 : Nat) : Int) ws hs H st ns c ps hit ok rec_ fu ((i + 1 : Nat) : Int) found = _
      rw [exc_l2 hP h9 hset hm hrec fu (i + 1) found (by omega)]
      rfl
theorem exc_more (h : BtOK ws hs H st ns) (hc : CrOK hs ns c ps hit) (hbd : ∀ n, bd n ≤ 1000) (hok : ∀ (n : Nat) (m : Int), n < ns.length → ok ((n : Int), m) = some (decide (m ≤ bd n))) (hD : ∀ v, D v = true ↔ Can c ns hit hs st bd v) : ∀ (m fu set from_ : Nat) (found : Int), m < fu → m < 1000 → from_ ≤ ps.length → set < 2 ^ ps.length →
    round_crier_excludes_1 fu (set : Int) (from_ : Int) (m : Int) ws hs H st ns c ps hit ok found = some (tld ((combs ps.length m from_).find? fun T => !D (setL T set)) set found)
  | _, 0, _, _, _, hf, _, _, _ => by omega
  | 0, fu + 1, set, from_, found, _, _, _, hs' => by
    have h2 := pow_nine (hc.nine h)
    obtain ⟨l, t, e⟩ := serve_D h hc hbd hok hD (v := set) (by omega)
    unfold round_crier_excludes_1 round_crier_excludes_1B
    rw [if_pos (show ((0 : Nat) : Int) = 0 from rfl), e, b3_some]
    show (if (!D set) = true then some (!D set, (set : Int)) else some (!D set, found)) = some (tld (List.find? (fun T => !D (setL T set)) [[]]) set found)
    rw [List.find?_cons]
    show _ = some (tld (match !D set with | true => some [] | false => List.find? (fun T => !D (setL T set)) []) set found)
    cases hd : D set <;> rfl
  | m + 1, fu + 1, set, from_, found, hf, hm, hfr, hs' => by
    have h9 := hc.nine h
    unfold round_crier_excludes_1 round_crier_excludes_1B
    rw [if_neg (by omega), gd_t ⟨r64_small (by omega), r64_small (by omega)⟩, show Int.toNat ((ps.length : Int) - (from_ : Int)) = ps.length - from_ by omega]
    rw [exc_l2 (P := ps.length) (D := D) rfl h9 hs' (by omega) (fun set i found h1 h2 => exc_more h hc hbd hok hD m fu set i found (by omega) (by omega) h2 h1) (ps.length - from_) from_ found (by omega)]
    rfl
theorem exc_l1 (h : BtOK ws hs H st ns) (hc : CrOK hs ns c ps hit) (hbd : ∀ n, bd n ≤ 1000) (hok : ∀ (n : Nat) (m : Int), n < ns.length → ok ((n : Int), m) = some (decide (m ≤ bd n))) (hD : ∀ v, D v = true ↔ Can c ns hit hs st bd v) : ∀ (fu k : Nat), k + fu = ps.length + 1 →
    round_crier_excludes_l1 ws hs H st ns c ps hit ok fu (k : Int) 0 = some (match firstL ps.length (fun T => !D (setL T 0)) fu k with | some T => (setL T 0 : Int) | none => 0)
  | 0, k, _ => rfl
  | fu + 1, k, hk => by
    have h9 := hc.nine h
    have e := exc_more h hc hbd hok hD k FU 0 0 0 (by unfold FU; omega) (by omega) (Nat.zero_le _) (Nat.pow_pos (by decide))
    have e' : round_crier_excludes_1 FU 0 0 (k : Int) ws hs H st ns c ps hit ok 0 = some (tld ((combs ps.length k 0).find? fun T => !D (setL T 0)) 0 0) := e
    unfold round_crier_excludes_l1 firstL
    rw [e']
    cases hf : (combs ps.length k 0).find? fun T => !D (setL T 0) with
    | some T => rfl
    | none => exact exc_l1 h hc hbd hok hD fu (k + 1) (by omega)
theorem excludes_eq (h : BtOK ws hs H st ns) (hc : CrOK hs ns c ps hit) (hbd : ∀ n, bd n ≤ 1000) (hok : ∀ (n : Nat) (m : Int), n < ns.length → ok ((n : Int), m) = some (decide (m ≤ bd n))) (hD : ∀ v, D v = true ↔ Can c ns hit hs st bd v) :
    round_crier_excludes ws hs H st ns c ps hit ok = some (match firstL ps.length (fun T => !D (setL T 0)) (ps.length + 1) 0 with | some T => (setL T 0 : Int) | none => 0) := by
  have h9 := hc.nine h
  have e := exc_l1 h hc hbd hok hD (ps.length + 1) 0 (by omega)
  have e' : round_crier_excludes_l1 ws hs H st ns c ps hit ok (Int.toNat (((ps.length : Int) + 1) - 0)) 0 0 = some (match firstL ps.length (fun T => !D (setL T 0)) (ps.length + 1) 0 with | some T => (setL T 0 : Int) | none => 0) := by
    rw [show Int.toNat (((ps.length : Int) + 1) - 0) = ps.length + 1 by omega]; exact e
  unfold round_crier_excludes
  rw [gd_t (r64_small (by omega)), gd_t ⟨r64_small (by omega), r64_small (by omega)⟩, e', b1_some]
def selP (ps : List (Int × Int)) (T : List Nat) : List (Int × Int) := T.map fun i => ps.getD i (0, 0)
theorem chosen_l1 {v : Nat} (hv : v < 512) : ∀ (tl : List (Int × Int)) (k : Nat) (out : List (Int × Int)), ps.drop k = tl → k + tl.length ≤ 9 → out.length + tl.length ≤ 100 → round_crier_chosen_l1 (v : Int) tl (k : Int) out = some (out ++ selP ps ((List.range' k tl.length).filter fun i => v.testBit i))
  | [], k, out, _, _, _ => by unfold round_crier_chosen_l1 selP; simp
  | x :: tl, k, out, hd, hk, ho => by
    obtain ⟨h1, h2, h3⟩ := drop_cons (0, 0) hd
    simp only [List.length_cons] at hk ho
    unfold round_crier_chosen_l1
    rw [gd_t (by omega), List.length_cons, List.range'_succ, List.filter_cons]
    by_cases b : v.testBit k = true
    · rw [if_pos ((bit_one (by omega) k).2 b), if_pos b, ap_t (by simp; omega), show (k : Int) + 1 = ((k + 1 : Nat) : Int) from rfl, chosen_l1 hv tl (k + 1) _ h3 (by omega) (by simp; omega)]
      unfold selP
      rw [List.map_cons, h2, List.append_assoc]; rfl
    · rw [if_neg (fun e => b ((bit_one (by omega) k).1 e)), if_neg b, show (k : Int) + 1 = ((k + 1 : Nat) : Int) from rfl, chosen_l1 hv tl (k + 1) _ h3 (by omega) (by omega)]
theorem chosen_eq (h9 : ps.length ≤ 9) {T : List Nat} (hT : Up ps.length 0 T) : round_crier_chosen ws hs H st ns c ps hit (setL T 0 : Int) = some (selP ps T) := by
  have h2 := pow_nine h9
  have hl : setL T 0 < 2 ^ ps.length := setL_lt T 0 (Nat.pow_pos (by decide)) fun i hi => (hT.2 i hi).2
  have e := chosen_l1 (ps := ps) (v := setL T 0) (by omega) ps 0 [] rfl (by omega) (by simp; omega)
  have e' : round_crier_chosen_l1 (setL T 0 : Int) ps 0 [] = _ := e
  unfold round_crier_chosen
  rw [e', b1_some, List.nil_append]
  congr 2
  have hf := filter_up ps.length 0 T (by rw [Nat.zero_add]; exact hT)
  refine Eq.trans ?_ hf
  exact List.filter_congr fun x _ => by rw [setL_bit, Nat.zero_testBit, Bool.false_or]
theorem setL_all {P : Nat} : setL (List.range P) 0 = 2 ^ P - 1 := by
  refine Nat.eq_of_testBit_eq fun i => ?_
  rw [setL_bit, Nat.zero_testBit, Bool.false_or, Nat.testBit_two_pow_sub_one, decide_eq_decide, List.mem_range]
theorem up_range (P : Nat) : Up P 0 (List.range P) := ⟨List.pairwise_lt_range, fun _i hi => ⟨Nat.zero_le _, List.mem_range.1 hi⟩⟩
theorem Before_eq (h : BtOK ws hs H st ns) (e : round_opened ws hs H st ns = some (some (ws, hs, H, st, ns, c, ps, hit), 0)) (hc : CrOK hs ns c ps hit) {m : Int} (hm : 0 ≤ m ∧ m ≤ 200) (hD : ∀ v, D v = true ↔ Can c ns hit hs st (bdL ns m) v) :
    (D (2 ^ ps.length - 1) = true ∧ round_Before ws hs H st ns m = some ([], 6)) ∨ (D (2 ^ ps.length - 1) = false ∧ ∃ T, Up ps.length 0 T ∧ D (setL T 0) = false ∧ (∀ T', Up ps.length 0 T' → D (setL T' 0) = false → T.length < T'.length ∨ (T.length = T'.length ∧ lex T T')) ∧ round_Before ws hs H st ns m = some (selP ps T, 0)) := by
  have h9 := hc.nine h
  have hok := by_ok (ws := ws) (hs := hs) (H := H) (st := st) (ns := ns) (c := c) (ps := ps) (hit := hit) m
  have hbd : ∀ n, bdL ns m n ≤ 1000 := bdL_le (by omega)
  obtain ⟨l, t, e2⟩ := serve_D h hc hbd (ok := fun xx_ : Int × Int => round_crier_by_1 xx_.1 xx_.2 m ws hs H st ns c ps hit) hok hD (full_lt h9)
  unfold round_Before
  rw [e, b2_some, if_neg (by decide), in_eq, b1_some, decide_eq_true hm, if_neg (by decide), b8_some]
  unfold round_crier_by
  rw [b1_some, all_eq h9, b1_some, e2, b3_some]
  cases hd : D (2 ^ ps.length - 1) with
  | true => exact .inl ⟨rfl, by rw [if_pos rfl]⟩
  | false =>
    refine .inr ⟨rfl, ?_⟩
    rw [if_neg (by decide), excludes_eq h hc hbd (ok := fun xx_ : Int × Int => round_crier_by_1 xx_.1 xx_.2 m ws hs H st ns c ps hit) hok hD, b1_some]
    cases hf : firstL ps.length (fun T => !D (setL T 0)) (ps.length + 1) 0 with
    | none =>
      have := firstL_none hf (List.range ps.length) (up_range _) (Nat.zero_le _) (by rw [List.length_range]; omega)
      rw [setL_all, hd] at this; cases this
    | some T =>
      obtain ⟨h1, h2, _, h3⟩ := firstL_some hf
      refine ⟨T, h1, by simpa using h2, fun T' h4 h5 => h3 T' h4 (Nat.zero_le _) (by rw [h5]; rfl), ?_⟩
      show b1 (round_crier_chosen ws hs H st ns c ps hit (setL T 0 : Int)) _ = _
      rw [chosen_eq h9 h1, b1_some]
end
end Go.Proofs.Ytfmapnhfamoecaa.Rd
namespace Go.Proofs.Ytfmapnhfamoecaa.Rd
open Go.PL
def SoonP (P : Int → Prop) (v : Int) : Prop := (v = -1 ∧ ∀ e, ¬ P e) ∨ (P v ∧ 0 ≤ v ∧ ∀ e, P e → v ≤ e)
theorem SoonP.congr {P Q : Int → Prop} {v : Int} (h : SoonP P v) (he : ∀ e, P e ↔ Q e) : SoonP Q v := by
  rcases h with ⟨h1, h2⟩ | ⟨h1, h2, h3⟩
  · exact .inl ⟨h1, fun e q => h2 e ((he e).2 q)⟩
  · exact .inr ⟨(he v).1 h1, h2, fun e q => h3 e ((he e).2 q)⟩
theorem SoonP.add {P : Int → Prop} {v e : Int} (h : SoonP P v) (h0 : 0 ≤ e) : ∃ v', round_soonest [v, e] = some v' ∧ SoonP (fun x => P x ∨ x = e) v' := by
  refine ⟨_, soonest2 v e h0, ?_⟩
  rcases h with ⟨h1, h2⟩ | ⟨h1, h2, h3⟩
  · rw [if_pos h1]
    exact .inr ⟨.inr rfl, h0, fun x hx => by
      rcases hx with hx | hx
      · exact absurd hx (h2 x)
      · omega⟩
  · rw [if_neg (by omega)]
    by_cases c : e < v
    · rw [if_pos c]
      exact .inr ⟨.inr rfl, h0, fun x hx => by
        rcases hx with hx | hx
        · have := h3 x hx; omega
        · omega⟩
    · rw [if_neg c]
      exact .inr ⟨.inl h1, h2, fun x hx => by
        rcases hx with hx | hx
        · exact h3 x hx
        · omega⟩
theorem SoonP.le {P : Int → Prop} {v b : Int} (h : SoonP P v) (_hP : ∀ e, P e → 0 ≤ e) : (0 ≤ v ∧ v ≤ b) ↔ ∃ e, P e ∧ e ≤ b := by
  rcases h with ⟨h1, h2⟩ | ⟨h1, h2, h3⟩
  · exact ⟨fun h => by omega, fun ⟨e, he, _⟩ => absurd he (h2 e)⟩
  · exact ⟨fun h => ⟨v, h1, h.2⟩, fun ⟨e, he, hb⟩ => ⟨h2, Int.le_trans (h3 e he) hb⟩⟩
structure Tab (N H : Nat) (P : Nat → Nat → Int → Prop) (out : List (List Int)) : Prop where
  len : out.length = N
  row : ∀ n, n < N → (out.getD n []).length = H
  val : ∀ n h, n < N → h < H → SoonP (P n h) ((out.getD n []).getD h 0)
theorem Tab.congr {N H : Nat} {P Q : Nat → Nat → Int → Prop} {out : List (List Int)} (h : Tab N H P out) (he : ∀ n h' e, n < N → h' < H → (P n h' e ↔ Q n h' e)) : Tab N H Q out :=
  ⟨h.len, h.row, fun n h' h1 h2 => (h.val n h' h1 h2).congr fun e => he n h' e h1 h2⟩
def HrE (hs : List (List Int)) (l : List (Int × Int)) (es : List Int) (n h : Nat) (e : Int) : Prop := ∃ z ∈ l.zip es, z.1.2 = (n : Int) ∧ (h : Int) ∈ hs.getD z.1.1.toNat [] ∧ z.2 = e
section
variable {ws hs : List (List Int)} {H st : Int} {ns : List (List Int × Int × Int)} {c : List Int} {ps : List (Int × Int)} {hit : List Int} {bd : Nat → Int}
theorem ends_pos {S : Nat} (hc : Fin5 S c) (hS : S ≤ 5) (hw : ∀ x ∈ ns, NOK H x) : ∀ (l : List (Int × Int)) (k m : Int) (es : List Int), CryOK S ns.length l → (0 ≤ k ∧ k < (S : Int)) → 0 ≤ m → endsF c ns k m l = some es → (∀ e ∈ es, 0 ≤ e) ∧ es.length = l.length
  | [], k, m, es, _, _, _, he => by
    obtain rfl : [] = es := Option.some.inj he
    exact ⟨fun e h => (nomatch h), rfl⟩
  | x :: l, k, m, es, hl, hk, hm, he => by
    obtain ⟨a1, a2⟩ := hl x (by simp)
    unfold endsF at he
    by_cases e : en c k.toNat x.1.toNat = -1
    · rw [if_pos e] at he; cases he
    · rw [if_neg e] at he
      have hN := (hw _ (getD_mem (d := ([], 0, 0)) (i := x.2.toNat) (by omega))).2.1
      have hwr : 1 ≤ wrd ns x.2.toNat ∧ wrd ns x.2.toNat ≤ 5 := hN
      have hr := hc.rng k.toNat x.1.toNat (by omega) (by omega)
      cases h3 : endsF c ns x.1 (m + en c k.toNat x.1.toNat + wrd ns x.2.toNat) l with
      | none => rw [h3] at he; cases he
      | some es2 =>
        rw [h3] at he
        obtain rfl := Option.some.inj he
        obtain ⟨h4, h5⟩ := ends_pos hc hS hw l x.1 _ es2 (fun z hz => hl z (by simp [hz])) a1 (by omega) h3
        refine ⟨fun e he => ?_, by simp [h5]⟩
        rcases List.mem_cons.1 he with rfl | he
        · omega
        · exact h4 e he
theorem hit_zip {p : Nat} : ∀ (l : List (Int × Int)) (k m : Int) (es : List Int), endsF c ns k m l = some es → (hitF c ns hit bd k m l p = true ↔ ∃ z ∈ l.zip es, z.2 ≤ bd z.1.2.toNat ∧ (hb hit z.1.1.toNat z.1.2.toNat).testBit p = true)
  | [], k, m, es, _ => by unfold hitF; simp
  | x :: l, k, m, es, he => by
    unfold endsF at he
    by_cases e : en c k.toNat x.1.toNat = -1
    · rw [if_pos e] at he; cases he
    · rw [if_neg e] at he
      cases h3 : endsF c ns x.1 (m + en c k.toNat x.1.toNat + wrd ns x.2.toNat) l with
      | none => rw [h3] at he; cases he
      | some es2 =>
        rw [h3] at he
        obtain rfl := Option.some.inj he
        unfold hitF
        show _ ↔ ∃ z ∈ (x :: l).zip ((m + en c k.toNat x.1.toNat + wrd ns x.2.toNat) :: es2), _
        rw [Bool.or_eq_true_iff, Bool.and_eq_true_iff, decide_eq_true_iff, hit_zip l _ _ es2 h3, List.zip_cons_cons]
        constructor
        · rintro (⟨h1, h2⟩ | ⟨z, hz, h1⟩)
          · exact ⟨(x, _), by simp, h1, h2⟩
          · exact ⟨z, by simp [hz], h1⟩
        · rintro ⟨z, hz, h1, h2⟩
          rcases List.mem_cons.1 hz with rfl | hz
          · exact .inl ⟨h1, h2⟩
          · exact .inr ⟨z, hz, h1, h2⟩
theorem hit_heard (h : BtOK ws hs H st ns) (hc : CrOK hs ns c ps hit) {l : List (Int × Int)} {es : List Int} (hl : CryOK hs.length ns.length l) (he : endsF c ns st 0 l = some es) {p : Nat} (hp : p < ps.length) :
    hitF c ns hit bd st 0 l p = true ↔ ∃ e, HrE hs l es (ps.getD p (0, 0)).1.toNat (ps.getD p (0, 0)).2.toNat e ∧ e ≤ bd (ps.getD p (0, 0)).1.toNat := by
  have h5 := h.hs1.2
  have h3 := h.hn
  have hm := ((hc.prs.mem _).1 (getD_mem (d := (0, 0)) hp))
  have hq2 := (h.note _ (getD_mem (d := ([], 0, 0)) (i := (ps.getD p (0, 0)).1.toNat) (by omega))).1.2.2 _ hm.2
  rw [hit_zip l st 0 es he]
  constructor
  · rintro ⟨z, hz, h1, h2⟩
    obtain ⟨a1, a2⟩ := hl z.1 (List.of_mem_zip hz).1
    rw [(hc.hit.hb (s := z.1.1.toNat) (n := z.1.2.toNat) (by omega) (by omega)).2.2 p] at h2
    unfold QP at h2
    simp only [Bool.and_eq_true_iff, decide_eq_true_iff] at h2
    obtain ⟨⟨⟨_, h4⟩, _⟩, h6⟩ := h2
    refine ⟨z.2, ⟨z, hz, by omega, by rwa [show (((ps.getD p (0, 0)).2.toNat : Nat) : Int) = (ps.getD p (0, 0)).2 by omega], rfl⟩, ?_⟩
    rw [h4, Int.toNat_natCast]; exact h1
  · rintro ⟨e, ⟨z, hz, h1, h2, rfl⟩, h4⟩
    obtain ⟨a1, a2⟩ := hl z.1 (List.of_mem_zip hz).1
    refine ⟨z, hz, by rw [h1, Int.toNat_natCast]; exact h4, ?_⟩
    rw [(hc.hit.hb (s := z.1.1.toNat) (n := z.1.2.toNat) (by omega) (by omega)).2.2 p]
    unfold QP
    simp only [Bool.and_eq_true_iff, decide_eq_true_iff]
    rw [show (((ps.getD p (0, 0)).2.toNat : Nat) : Int) = (ps.getD p (0, 0)).2 by omega] at h2
    exact ⟨⟨⟨hp, by omega⟩, by omega⟩, h2⟩
theorem PrsOK.rng (h : BtOK ws hs H st ns) (hc : CrOK hs ns c ps hit) {q : Int × Int} (hq : q ∈ ps) : (0 ≤ q.1 ∧ q.1 < (ns.length : Int)) ∧ (0 ≤ q.2 ∧ q.2 < H) := by
  have hm := (hc.prs.mem _).1 hq
  exact ⟨hm.1, (h.note _ (getD_mem (d := ([], 0, 0)) (i := q.1.toNat) (by omega))).1.2.2 _ hm.2⟩
end
end Go.Proofs.Ytfmapnhfamoecaa.Rd
namespace Go.Proofs.Ytfmapnhfamoecaa.Rd
open Go.PL Go.Proofs.Ytfmapnhfamoecaa.Rv
theorem awake_eq : oyezlaw03_awake = some true := by decide +kernel
section
variable {ws hs : List (List Int)} {H st : Int} {ns : List (List Int × Int × Int)} {c : List Int} {ps : List (Int × Int)} {hit : List Int} {bd : Nat → Int} {D : Nat → Bool}
theorem selP_len (T : List Nat) : (selP ps T).length = T.length := List.length_map ..
end
end Go.Proofs.Ytfmapnhfamoecaa.Rd
