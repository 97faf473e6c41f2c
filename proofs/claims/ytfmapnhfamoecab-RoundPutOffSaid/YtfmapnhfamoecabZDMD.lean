/- The best round, and sets of pairs; in plain Lean. -/
import Derived.Test.YtfmapnhfamoecabZDMC
namespace Go.Proofs.Ytfmapnhfamoecab.Rd
open Go.PL
def bdL (ns : List (List Int × Int × Int)) (last : Int) (n : Nat) : Int := if (ns.getD n ([], 0, 0)).2.2 < last then (ns.getD n ([], 0, 0)).2.2 else last
theorem bdL_le {ns : List (List Int × Int × Int)} {last : Int} (hl : last ≤ 1000) (n : Nat) : bdL ns last n ≤ 1000 := by unfold bdL; split <;> omega
section
variable {ws hs : List (List Int)} {H st : Int} {ns : List (List Int × Int × Int)} {c : List Int} {ps : List (Int × Int)} {hit : List Int}
def Ser (c : List Int) (ns : List (List Int × Int × Int)) (hit : List Int) (hs : List (List Int)) (st : Int) (bd : Nat → Int) (v : Nat) (l : List (Int × Int)) (t : Int) : Prop := ∃ s, Pth c ns hit bd hs.length st v l s 0 t
theorem by_ok (last : Int) : ∀ (n : Nat) (m : Int), n < ns.length → (fun xx_ : Int × Int => round_crier_by_1 xx_.1 xx_.2 last ws hs H st ns c ps hit) ((n : Int), m) = some (decide (m ≤ bdL ns last n)) := fun n m hn => by
  show round_crier_by_1 (n : Int) m last ws hs H st ns c ps hit = _
  unfold round_crier_by_1
  rw [ixN ([], 0, 0) _ hn]
  rfl
theorem all_eq (hp : ps.length ≤ 9) : round_crier_all ws hs H st ns c ps hit = some ((2 ^ ps.length - 1 : Nat) : Int) := by
  have h1 : 1 ≤ (2 : Nat) ^ ps.length := Nat.one_le_two_pow
  have h2 : (2 : Nat) ^ ps.length ≤ 2 ^ 9 := Nat.pow_le_pow_right (by decide) hp
  have h3 : (2 : Nat) ^ 9 = 512 := by decide
  have h4 : (((2 : Nat) ^ ps.length : Nat) : Int) - 1 = ((2 ^ ps.length - 1 : Nat) : Int) := by omega
  unfold round_crier_all
  rw [gd_t (shl_r (by omega)), shl_nat, h4, gd_t (r64_small (by omega))]
theorem CrOK.nine (h : BtOK ws hs H st ns) (hc : CrOK hs ns c ps hit) : ps.length ≤ 9 := by
  have h1 := hc.prs.len
  have h2 := total_take ns ns.length
  have h3 := h.tot
  omega
theorem full_lt (hp : ps.length ≤ 9) : 2 ^ ps.length - 1 < 512 := by
  have h1 : 1 ≤ (2 : Nat) ^ ps.length := Nat.one_le_two_pow
  have h2 : (2 : Nat) ^ ps.length ≤ 2 ^ 9 := Nat.pow_le_pow_right (by decide) hp
  have h3 : (2 : Nat) ^ 9 = 512 := by decide
  omega
theorem Best_eq (h : BtOK ws hs H st ns) (e : round_opened ws hs H st ns = some (some (ws, hs, H, st, ns, c, ps, hit), 0)) (hc : CrOK hs ns c ps hit) :
    (round_Best ws hs H st ns = some ([], 0, 6) ∧ ∀ l t, ¬ Ser c ns hit hs st (bdL ns 200) (2 ^ ps.length - 1) l t) ∨
    ∃ l t, round_Best ws hs H st ns = some (l, t, 0) ∧ Ser c ns hit hs st (bdL ns 200) (2 ^ ps.length - 1) l t ∧ ∀ l' t', Ser c ns hit hs st (bdL ns 200) (2 ^ ps.length - 1) l' t' → t ≤ t' := by
  have hp := hc.nine h
  unfold round_Best round_crier_hours round_crier_by
  rw [e, b2_some, if_neg (by decide), b8_some, all_eq hp, b1_some, b1_some, b1_some]
  rcases serve_eq h hc (bd := bdL ns 200) (ok := fun xx_ : Int × Int => round_crier_by_1 xx_.1 xx_.2 200 ws hs H st ns c ps hit) (bdL_le (by decide)) (by_ok 200) (full_lt hp) with ⟨e1, h1⟩ | ⟨l, s, t, e1, h1, h2⟩
  · rw [e1, b3_some, if_pos (by decide)]
    exact .inl ⟨rfl, fun l t ⟨s, hs'⟩ => h1 l s t hs'⟩
  · rw [e1, b3_some, if_neg (by decide)]
    exact .inr ⟨l, t, rfl, ⟨s, h1⟩, fun l' t' ⟨s', hs'⟩ => h2 l' s' t' hs'⟩
end
end Go.Proofs.Ytfmapnhfamoecab.Rd
namespace Go.Proofs.Ytfmapnhfamoecab.Rd
open Go.PL
def endsF (c : List Int) (ns : List (List Int × Int × Int)) : Int → Int → List (Int × Int) → Option (List Int)
  | _, _, [] => some []
  | k, m, x :: l => if en c k.toNat x.1.toNat = -1 then none else (endsF c ns x.1 (m + en c k.toNat x.1.toNat + wrd ns x.2.toNat) l).map ((m + en c k.toNat x.1.toNat + wrd ns x.2.toNat) :: ·)
def CryOK (S N : Nat) (l : List (Int × Int)) : Prop := ∀ x ∈ l, (0 ≤ x.1 ∧ x.1 < (S : Int)) ∧ (0 ≤ x.2 ∧ x.2 < (N : Int))
section
variable {ws hs : List (List Int)} {H st : Int} {ns : List (List Int × Int × Int)} {c : List Int} {ps : List (Int × Int)} {hit : List Int}
end
end Go.Proofs.Ytfmapnhfamoecab.Rd
namespace Go.Proofs.Ytfmapnhfamoecab.Rd
open Go.PL
def plc (k : Int) (l : List (Int × Int)) : Int := (l.map (·.1)).getLastD k
theorem plc_snoc (k : Int) (l : List (Int × Int)) (x : Int × Int) : plc k (l ++ [x]) = x.1 := by unfold plc; simp
section
variable {c : List Int} {ns : List (List Int × Int × Int)} {hit : List Int} {bd : Nat → Int} {S : Nat} {start : Int} {v0 : Nat}
theorem ends_snoc {x : Int × Int} : ∀ (l : List (Int × Int)) (k m : Int) (es : List Int), endsF c ns k m l = some es →
    endsF c ns k m (l ++ [x]) = if en c (plc k l).toNat x.1.toNat = -1 then none else some (es ++ [es.getLastD m + en c (plc k l).toNat x.1.toNat + wrd ns x.2.toNat])
  | [], k, m, es, h => by
    obtain rfl : [] = es := Option.some.inj h
    simp only [List.nil_append, endsF, plc, List.map_nil, List.getLastD_nil]
    rfl
  | y :: l, k, m, es, h => by
    unfold endsF at h
    by_cases e : en c k.toNat y.1.toNat = -1
    · rw [if_pos e] at h; cases h
    · rw [if_neg e] at h
      cases h2 : endsF c ns y.1 (m + en c k.toNat y.1.toNat + wrd ns y.2.toNat) l with
      | none => rw [h2] at h; cases h
      | some es2 =>
        rw [h2] at h
        obtain rfl := Option.some.inj h
        have ih := ends_snoc (x := x) l y.1 _ es2 h2
        have ep : plc k (y :: l) = plc y.1 l := by unfold plc; rw [List.map_cons, List.getLastD_cons]
        have el : ((m + en c k.toNat y.1.toNat + wrd ns y.2.toNat) :: es2).getLastD m = es2.getLastD (m + en c k.toNat y.1.toNat + wrd ns y.2.toNat) := by rw [List.getLastD_cons]
        rw [List.cons_append]
        show endsF c ns k m (y :: (l ++ [x])) = _
        unfold endsF
        rw [if_neg e, ih, ep, el]
        by_cases e2 : en c (plc y.1 l).toNat x.1.toNat = -1
        · rw [if_pos e2, if_pos e2]; rfl
        · rw [if_neg e2, if_neg e2]; rfl
theorem Pth.ends {l : List (Int × Int)} {s : Int} {v : Nat} {t : Int} (h : Pth c ns hit bd S start v0 l s v t) : ∃ es, endsF c ns start 0 l = some es ∧ es.getLastD 0 = t ∧ plc start l = s ∧ CryOK S ns.length l ∧ es.length = l.length := by
  induction h with
  | nil => exact ⟨[], rfl, rfl, rfl, fun x hx => (nomatch hx), rfl⟩
  | @snoc l k v s n t h hk hs hn hne hv ih =>
    obtain ⟨es, e1, e2, e3, e4, e5⟩ := ih
    have q := ends_snoc (x := ((s : Int), (n : Int))) l start 0 es e1
    rw [e3, e2, Int.toNat_natCast, Int.toNat_natCast, Int.toNat_natCast, if_neg hv.1] at q
    refine ⟨_, q, by simp, plc_snoc .., fun x hx => ?_, by simp [e5]⟩
    rcases List.mem_append.1 hx with hx | hx
    · exact e4 x hx
    · rw [List.mem_singleton.1 hx]
      exact ⟨⟨by show 0 ≤ (s : Int); omega, by show (s : Int) < (S : Int); omega⟩, ⟨by show 0 ≤ (n : Int); omega, by show (n : Int) < (ns.length : Int); omega⟩⟩
end
end Go.Proofs.Ytfmapnhfamoecab.Rd
namespace Go.Proofs.Ytfmapnhfamoecab.Rd
open Go.PL
def remF (c : List Int) (ns : List (List Int × Int × Int)) (hit : List Int) (bd : Nat → Int) : Int → Int → Nat → List (Int × Int) → Nat
  | _, _, v, [] => v
  | k, m, v, x :: l => remF c ns hit bd x.1 (m + en c k.toNat x.1.toNat + wrd ns x.2.toNat) (if m + en c k.toNat x.1.toNat + wrd ns x.2.toNat ≤ bd x.2.toNat then dif v (hb hit x.1.toNat x.2.toNat) else v) l
section
variable {c : List Int} {ns : List (List Int × Int × Int)} {hit : List Int} {bd : Nat → Int} {S : Nat} {start : Int} {v0 : Nat} {H : Int}
theorem shorten (hc : Fin5 S c) (hS : S ≤ 5) (hw : ∀ x ∈ ns, NOK H x) : ∀ (l : List (Int × Int)) (k m : Int) (v s : Nat) (t : Int) (lp : List (Int × Int)) (es : List Int), CryOK S ns.length l → (0 ≤ k ∧ k < (S : Int)) → endsF c ns k m l = some es → Pth c ns hit bd S start v0 lp (s : Int) v t → s < S → en c s k.toNat ≠ -1 → t + en c s k.toNat ≤ m →
    ∃ lp' s' t', Pth c ns hit bd S start v0 lp' s' (remF c ns hit bd k m v l) t' ∧ t' ≤ es.getLastD m
  | [], k, m, v, s, t, lp, es, _, hk, he, hp, hs, h1, h2 => by
    obtain rfl : [] = es := Option.some.inj he
    have := hc.rng s k.toNat (by omega) (by omega)
    exact ⟨lp, s, t, hp, by show t ≤ m; omega⟩
  | x :: l, k, m, v, s, t, lp, es, hl, hk, he, hp, hs, h1, h2 => by
    obtain ⟨a1, a2⟩ := hl x (by simp)
    unfold endsF at he
    by_cases e : en c k.toNat x.1.toNat = -1
    · rw [if_pos e] at he; cases he
    · rw [if_neg e] at he
      cases h3 : endsF c ns x.1 (m + en c k.toNat x.1.toNat + wrd ns x.2.toNat) l with
      | none => rw [h3] at he; cases he
      | some es2 =>
        rw [h3] at he
        obtain rfl := Option.some.inj he
        have hN := (hw _ (getD_mem (d := ([], 0, 0)) (i := x.2.toNat) (by omega))).2.1
        have hwr : 1 ≤ wrd ns x.2.toNat ∧ wrd ns x.2.toNat ≤ 5 := hN
        obtain ⟨t1, t2⟩ := hc.tri s k.toNat x.1.toNat (by omega) (by omega) (by omega) h1 e
        have hr := hc.rng k.toNat x.1.toNat (by omega) (by omega)
        have hl' : CryOK S ns.length l := fun z hz => hl z (by simp [hz])
        have hgl : ((m + en c k.toNat x.1.toNat + wrd ns x.2.toNat) :: es2).getLastD m = es2.getLastD (m + en c k.toNat x.1.toNat + wrd ns x.2.toNat) := by rw [List.getLastD_cons]
        show ∃ lp' s' t', Pth c ns hit bd S start v0 lp' s' (remF c ns hit bd k m v (x :: l)) t' ∧ t' ≤ ((m + en c k.toNat x.1.toNat + wrd ns x.2.toNat) :: es2).getLastD m
        rw [hgl]
        unfold remF
        by_cases b : m + en c k.toNat x.1.toNat + wrd ns x.2.toNat ≤ bd x.2.toNat
        · rw [if_pos b]
          by_cases d : dif v (hb hit x.1.toNat x.2.toNat) = v
          · rw [d]
            exact shorten hc hS hw l x.1 _ v s t lp es2 hl' a1 h3 hp hs t1 (by omega)
          · have hp' := Pth.snoc hp hs (s := x.1.toNat) (n := x.2.toNat) (by omega) (by omega) d ⟨t1, by omega⟩
            have hd := hc.shp.diag x.1.toNat (by omega) (by omega)
            exact shorten hc hS hw l x.1 _ _ x.1.toNat _ _ es2 hl' a1 h3 hp' (by omega) (by omega) (by omega)
        · rw [if_neg b]
          exact shorten hc hS hw l x.1 _ v s t lp es2 hl' a1 h3 hp hs t1 (by omega)
theorem shorten0 {ws hs : List (List Int)} {st : Int} {ps : List (Int × Int)} (h : BtOK ws hs H st ns) (hc : CrOK hs ns c ps hit) {l : List (Int × Int)} {es : List Int} {v : Nat} (hl : CryOK hs.length ns.length l) (he : endsF c ns st 0 l = some es) (hr : remF c ns hit bd st 0 v l = 0) : ∃ l' t, Ser c ns hit hs st bd v l' t ∧ t ≤ es.getLastD 0 := by
  have h1 := h.hst
  have h5 := h.hs1.2
  have hp : Pth c ns hit bd hs.length st v [] ((st.toNat : Nat) : Int) v 0 := by
    rw [show ((st.toNat : Nat) : Int) = st by omega]; exact .nil
  have hd := hc.fin.shp.diag st.toNat (by omega) (by omega)
  obtain ⟨l', s', t', h2, h3⟩ := shorten hc.fin h5 h.note l st 0 v st.toNat 0 [] es hl h1 he hp (by omega) (by omega) (by omega)
  rw [hr] at h2
  exact ⟨l', t', ⟨s', h2⟩, h3⟩
end
end Go.Proofs.Ytfmapnhfamoecab.Rd
namespace Go.Proofs.Ytfmapnhfamoecab.Rd
open Go.PL
def hitF (c : List Int) (ns : List (List Int × Int × Int)) (hit : List Int) (bd : Nat → Int) : Int → Int → List (Int × Int) → Nat → Bool
  | _, _, [], _ => false
  | k, m, x :: l, p => (decide (m + en c k.toNat x.1.toNat + wrd ns x.2.toNat ≤ bd x.2.toNat) && (hb hit x.1.toNat x.2.toNat).testBit p) || hitF c ns hit bd x.1 (m + en c k.toNat x.1.toNat + wrd ns x.2.toNat) l p
section
variable {c : List Int} {ns : List (List Int × Int × Int)} {hit : List Int} {bd bd' : Nat → Int} {S : Nat} {start : Int} {v0 : Nat} {H : Int}
theorem bit_rem : ∀ (l : List (Int × Int)) (k m : Int) (v p : Nat), (remF c ns hit bd k m v l).testBit p = (v.testBit p && !hitF c ns hit bd k m l p)
  | [], k, m, v, p => by simp [remF, hitF]
  | x :: l, k, m, v, p => by
    unfold remF hitF
    rw [bit_rem l]
    by_cases b : m + en c k.toNat x.1.toNat + wrd ns x.2.toNat ≤ bd x.2.toNat
    · rw [if_pos b, decide_eq_true b, bit_dif, Bool.true_and, Bool.not_or, Bool.and_assoc]
    · rw [if_neg b, decide_eq_false b, Bool.false_and, Bool.false_or]
theorem rem_zero {l : List (Int × Int)} {k m : Int} {v : Nat} : remF c ns hit bd k m v l = 0 ↔ ∀ p, v.testBit p = true → hitF c ns hit bd k m l p = true := by
  constructor
  · intro h p hp
    have := bit_rem (c := c) (ns := ns) (hit := hit) (bd := bd) l k m v p
    rw [h, Nat.zero_testBit, hp, Bool.true_and] at this
    cases e : hitF c ns hit bd k m l p with
    | true => rfl
    | false => rw [e] at this; cases this
  · intro h
    refine Nat.eq_of_testBit_eq fun p => ?_
    rw [bit_rem, Nat.zero_testBit]
    cases e : v.testBit p with
    | false => rfl
    | true => rw [h p e]; rfl
theorem rem_snoc {x : Int × Int} : ∀ (l : List (Int × Int)) (k m : Int) (v : Nat) (es : List Int), endsF c ns k m l = some es →
    remF c ns hit bd k m v (l ++ [x]) = if es.getLastD m + en c (plc k l).toNat x.1.toNat + wrd ns x.2.toNat ≤ bd x.2.toNat then dif (remF c ns hit bd k m v l) (hb hit x.1.toNat x.2.toNat) else remF c ns hit bd k m v l
  | [], k, m, v, es, h => by
    obtain rfl : [] = es := Option.some.inj h
    simp only [List.nil_append, remF, plc, List.map_nil, List.getLastD_nil]
  | y :: l, k, m, v, es, h => by
    unfold endsF at h
    by_cases e : en c k.toNat y.1.toNat = -1
    · rw [if_pos e] at h; cases h
    · rw [if_neg e] at h
      cases h2 : endsF c ns y.1 (m + en c k.toNat y.1.toNat + wrd ns y.2.toNat) l with
      | none => rw [h2] at h; cases h
      | some es2 =>
        rw [h2] at h
        obtain rfl := Option.some.inj h
        have ep : plc k (y :: l) = plc y.1 l := by unfold plc; rw [List.map_cons, List.getLastD_cons]
        have el : ((m + en c k.toNat y.1.toNat + wrd ns y.2.toNat) :: es2).getLastD m = es2.getLastD (m + en c k.toNat y.1.toNat + wrd ns y.2.toNat) := by rw [List.getLastD_cons]
        rw [List.cons_append]
        show remF c ns hit bd k m v (y :: (l ++ [x])) = _
        unfold remF
        rw [rem_snoc (x := x) l y.1 _ _ es2 h2, ep]
        show _ = if ((m + en c k.toNat y.1.toNat + wrd ns y.2.toNat) :: es2).getLastD m + _ + _ ≤ _ then _ else _
        rw [el]
theorem Pth.rem {l : List (Int × Int)} {s : Int} {v : Nat} {t : Int} (h : Pth c ns hit bd S start v0 l s v t) : remF c ns hit bd start 0 v0 l = v := by
  induction h with
  | nil => rfl
  | @snoc l k v s n t h hk hs hn hne hv ih =>
    obtain ⟨es, e1, e2, e3, e4, e5⟩ := h.ends
    rw [rem_snoc l start 0 v0 es e1, e3, e2, ih, Int.toNat_natCast, Int.toNat_natCast, Int.toNat_natCast, if_pos hv.2]
theorem hit_mono (hbd : ∀ n, n < ns.length → bd n ≤ bd' n) {p : Nat} : ∀ (l : List (Int × Int)) (k m : Int), CryOK S ns.length l → hitF c ns hit bd k m l p = true → hitF c ns hit bd' k m l p = true
  | [], _, _, _, h => h
  | x :: l, k, m, hl, h => by
    unfold hitF at h ⊢
    rw [Bool.or_eq_true_iff, Bool.and_eq_true_iff, decide_eq_true_iff] at h ⊢
    obtain ⟨_, h2⟩ := hl x (by simp)
    rcases h with ⟨h3, h4⟩ | h3
    · exact .inl ⟨Int.le_trans h3 (hbd _ (by omega)), h4⟩
    · exact .inr (hit_mono hbd l _ _ (fun z hz => hl z (by simp [hz])) h3)
def cnt (v : Nat) : Nat := (List.range 9).countP fun i => v.testBit i
theorem Pth.le {l : List (Int × Int)} {s : Int} {v : Nat} {t : Int} (h : Pth c ns hit bd S start v0 l s v t) : v ≤ v0 := by
  have := h.len; omega
end
section
variable {ws hs : List (List Int)} {H st : Int} {ns : List (List Int × Int × Int)} {c : List Int} {ps : List (Int × Int)} {hit : List Int} {bd bd' : Nat → Int} {v v' : Nat}
def Can (c : List Int) (ns : List (List Int × Int × Int)) (hit : List Int) (hs : List (List Int)) (st : Int) (bd : Nat → Int) (v : Nat) : Prop := ∃ l es, CryOK hs.length ns.length l ∧ endsF c ns st 0 l = some es ∧ remF c ns hit bd st 0 v l = 0
theorem Ser.can {l : List (Int × Int)} {t : Int} (h : Ser c ns hit hs st bd v l t) : ∃ es, CryOK hs.length ns.length l ∧ endsF c ns st 0 l = some es ∧ remF c ns hit bd st 0 v l = 0 ∧ es.getLastD 0 = t ∧ es.length = l.length := by
  obtain ⟨s, h⟩ := h
  obtain ⟨es, e1, e2, e3, e4, e5⟩ := h.ends
  exact ⟨es, e4, e1, h.rem, e2, e5⟩
theorem can_iff (h : BtOK ws hs H st ns) (hc : CrOK hs ns c ps hit) : Can c ns hit hs st bd v ↔ ∃ l t, Ser c ns hit hs st bd v l t := by
  constructor
  · rintro ⟨l, es, h1, h2, h3⟩
    obtain ⟨l', t, h4, _⟩ := shorten0 h hc h1 h2 h3
    exact ⟨l', t, h4⟩
  · rintro ⟨l, t, h1⟩
    obtain ⟨es, h2, h3, h4, _⟩ := h1.can
    exact ⟨l, es, h2, h3, h4⟩
theorem Can.mono (h : Can c ns hit hs st bd v) (hbd : ∀ n, n < ns.length → bd n ≤ bd' n) (hv : ∀ p, v'.testBit p = true → v.testBit p = true) : Can c ns hit hs st bd' v' := by
  obtain ⟨l, es, h1, h2, h3⟩ := h
  exact ⟨l, es, h1, h2, rem_zero.2 fun p hp => hit_mono hbd l _ _ h1 (rem_zero.1 h3 p (hv p hp))⟩
theorem Can.zero : Can c ns hit hs st bd 0 := ⟨[], [], fun _ h => (nomatch h), rfl, rfl⟩
end
end Go.Proofs.Ytfmapnhfamoecab.Rd
namespace Go.Proofs.Ytfmapnhfamoecab.Rd
open Go.PL Go.Proofs.Ytfmapnhfamoecab.Rv
theorem bit_nat {x : Nat} (hx : x < 9223372036854775808) (k : Nat) : band (shr (x : Int) (k : Int)) 1 = if x.testBit k then 1 else 0 := by
  have e : shr (x : Int) (k : Int) = ((x >>> k : Nat) : Int) := by
    unfold shr
    rw [Int.toNat_natCast, Nat.shiftRight_eq_div_pow]
    norm_cast
  have h1 : x >>> k ≤ x := by rw [Nat.shiftRight_eq_div_pow]; exact Nat.div_le_self _ _
  have h2 : band ((x >>> k : Nat) : Int) 1 = ((x >>> k &&& 1 : Nat) : Int) := band_nat (y := 1) (by omega) (by decide)
  rw [e, h2, Nat.testBit, Nat.and_comm]
  have h3 : 1 &&& x >>> k ≤ 1 := Nat.and_le_left
  generalize 1 &&& x >>> k = z at h3
  rcases Nat.le_one_iff_eq_zero_or_eq_one.1 h3 with rfl | rfl <;> rfl
theorem bit_one {x : Nat} (hx : x < 9223372036854775808) (k : Nat) : (band (shr (x : Int) (k : Int)) 1 = 1) ↔ x.testBit k = true := by
  rw [bit_nat hx]; split <;> simp_all
theorem pow_nine {P : Nat} (hp : P ≤ 9) : (2 : Nat) ^ P ≤ 512 := by
  have h2 : (2 : Nat) ^ P ≤ 2 ^ 9 := Nat.pow_le_pow_right (by decide) hp
  have h3 : (2 : Nat) ^ 9 = 512 := by decide
  omega
section
variable {ws hs : List (List Int)} {H st : Int} {ns : List (List Int × Int × Int)} {c : List Int} {ps : List (Int × Int)} {hit : List Int} {bd : Nat → Int} {ok : Int × Int → Option Bool} {D : Nat → Bool}
theorem serve_D (h : BtOK ws hs H st ns) (hc : CrOK hs ns c ps hit) (hbd : ∀ n, bd n ≤ 1000) (hok : ∀ (n : Nat) (m : Int), n < ns.length → ok ((n : Int), m) = some (decide (m ≤ bd n))) (hD : ∀ v, D v = true ↔ Can c ns hit hs st bd v) {v : Nat} (hv : v < 512) :
    ∃ l t, round_crier_serve ws hs H st ns c ps hit (v : Int) ok = some (l, t, D v) := by
  rcases serve_eq h hc hbd hok hv with ⟨e, h1⟩ | ⟨l, s, t, e, h1, _⟩
  · refine ⟨[], 0, ?_⟩
    rw [e]
    cases hd : D v with
    | false => rfl
    | true =>
      obtain ⟨l, t, s, h2⟩ := (can_iff h hc).1 ((hD v).1 hd)
      exact absurd h2 (h1 l s t)
  · refine ⟨l, t, ?_⟩
    rw [e, (hD v).2 ((can_iff h hc).2 ⟨l, t, s, h1⟩)]
def selP (ps : List (Int × Int)) (T : List Nat) : List (Int × Int) := T.map fun i => ps.getD i (0, 0)
theorem idxP_l2 {q : Int × Int} (hd : ps.Nodup) {i : Nat} (hi : i < ps.length) (hq : ps.getD i (0, 0) = q) : ∀ (d k : Nat), k + d = i → slices_IndexFunc_round_Pair_round_Pair_l2 (fun xx_ : Int × Int => round_crier_index_1 xx_.1 xx_.2 q.1 q.2) (ps.drop k) (k : Int) = some (i : Int)
  | 0, k, hk => by
    have hk' : k = i := by omega
    subst hk'
    have e : ps.drop k = q :: ps.drop (k + 1) := by
      rw [List.drop_eq_getElem_cons hi]
      congr 1
      rw [← hq, List.getD_eq_getElem?_getD, List.getElem?_eq_getElem hi]; rfl
    rw [e]
    unfold slices_IndexFunc_round_Pair_round_Pair_l2 round_crier_index_1
    rw [b1_some, if_pos (decide_eq_true ⟨rfl, rfl⟩)]
  | d + 1, k, hk => by
    have hkl : k < ps.length := by omega
    have hne : ps[k] ≠ q := fun e => by
      rw [List.getD_eq_getElem?_getD, List.getElem?_eq_getElem hi] at hq
      have := (List.pairwise_iff_getElem.1 hd) k i hkl hi (by omega)
      exact this (e.trans hq.symm)
    rw [List.drop_eq_getElem_cons hkl]
    unfold slices_IndexFunc_round_Pair_round_Pair_l2
    rw [show round_crier_index_1 ps[k].1 ps[k].2 q.1 q.2 = some (decide (ps[k].1 = q.1 ∧ ps[k].2 = q.2)) from rfl, b1_some, if_neg (by rw [decide_eq_true_iff]; exact fun e => hne (Prod.ext e.1 e.2))]
    exact idxP_l2 hd hi hq d (k + 1) (by omega)
theorem index_eq (hd : ps.Nodup) {i : Nat} (hi : i < ps.length) : round_crier_index ws hs H st ns c ps hit (ps.getD i (0, 0)).1 (ps.getD i (0, 0)).2 = some (i : Int) := by
  have e := idxP_l2 hd hi rfl i 0 (by omega)
  rw [List.drop_zero] at e
  have e' : slices_IndexFunc_round_Pair_round_Pair_l2 (fun xx_ : Int × Int => round_crier_index_1 xx_.1 xx_.2 (ps.getD i (0, 0)).1 (ps.getD i (0, 0)).2) ps 0 = some (i : Int) := e
  unfold round_crier_index slices_IndexFunc_round_Pair_round_Pair
  rw [e', b1_some]
theorem tog_l2 (h : BtOK ws hs H st ns) (hc : CrOK hs ns c ps hit) : ∀ (T : List Nat) (v : Nat), v < 2 ^ ps.length → T.Nodup → (∀ i ∈ T, i < ps.length ∧ v.testBit i = false) →
    round_Together_l2 (some (ws, hs, H, st, ns, c, ps, hit)) (selP ps T) (v : Int) = round_Together_j1 (some (ws, hs, H, st, ns, c, ps, hit)) (setL T v : Int)
  | [], v, _, _, _ => rfl
  | i :: T, v, hv, hd, hT => by
    have h9 := hc.nine h
    have h2 := pow_nine h9
    obtain ⟨hi, hb⟩ := hT i (by simp)
    obtain ⟨hd1, hd2⟩ := List.nodup_cons.1 hd
    have hpow : (2 : Nat) ^ i < 2 ^ ps.length := Nat.pow_lt_pow_right (by decide) hi
    have hlt : v ||| 2 ^ i < 2 ^ ps.length := Nat.or_lt_two_pow hv hpow
    show round_Together_l2 _ (ps.getD i (0, 0) :: selP ps T) (v : Int) = _
    unfold round_Together_l2
    rw [b8_some, index_eq hc.prs.nodup hi, b1_some, if_neg (by omega), gd_t (by omega), if_neg (fun e => by rw [bit_one (by omega), hb] at e; cases e), gd_t (shl_r (by omega)), shl_nat, bor_nat (by omega) (by omega)]
    rw [tog_l2 h hc T (v ||| 2 ^ i) hlt hd2 fun j hj => ⟨(hT j (by simp [hj])).1, by
      rw [Nat.testBit_or, (hT j (by simp [hj])).2, Nat.testBit_two_pow, Bool.false_or, decide_eq_false]
      intro e; subst e; exact hd1 hj⟩]
    rfl
theorem Together_eq (h : BtOK ws hs H st ns) (e : round_opened ws hs H st ns = some (some (ws, hs, H, st, ns, c, ps, hit), 0)) (hc : CrOK hs ns c ps hit) (hD : ∀ v, D v = true ↔ Can c ns hit hs st (bdL ns 200) v) {T : List Nat} (hd : T.Nodup) (hT : ∀ i ∈ T, i < ps.length) :
    round_Together ws hs H st ns (selP ps T) = some (D (setL T 0), 0) := by
  have h9 := hc.nine h
  have h2 := pow_nine h9
  have hl : setL T 0 < 2 ^ ps.length := setL_lt T 0 (Nat.pow_pos (by decide)) hT
  have e1 := tog_l2 h hc T 0 (Nat.pow_pos (by decide)) hd fun i hi => ⟨hT i hi, Nat.zero_testBit _⟩
  have e1' : round_Together_l2 (some (ws, hs, H, st, ns, c, ps, hit)) (selP ps T) 0 = _ := e1
  obtain ⟨l, t, e2⟩ := serve_D h hc (bd := bdL ns 200) (ok := fun xx_ : Int × Int => round_crier_by_1 xx_.1 xx_.2 200 ws hs H st ns c ps hit) (bdL_le (by decide)) (by_ok 200) hD (v := setL T 0) (by omega)
  unfold round_Together
  rw [e, b2_some, if_neg (by decide), e1']
  unfold round_Together_j1 round_crier_hours round_crier_by
  rw [b8_some, b1_some, b1_some, e2, b3_some]
end
end Go.Proofs.Ytfmapnhfamoecab.Rd
namespace Go.Proofs.Ytfmapnhfamoecab.Rd
open Go.PL
def SoonP (P : Int → Prop) (v : Int) : Prop := (v = -1 ∧ ∀ e, ¬ P e) ∨ (P v ∧ 0 ≤ v ∧ ∀ e, P e → v ≤ e)
theorem SoonP.congr {P Q : Int → Prop} {v : Int} (h : SoonP P v) (he : ∀ e, P e ↔ Q e) : SoonP Q v := by
  rcases h with ⟨h1, h2⟩ | ⟨h1, h2, h3⟩
  · exact .inl ⟨h1, fun e q => h2 e ((he e).2 q)⟩
  · exact .inr ⟨(he v).1 h1, h2, fun e q => h3 e ((he e).2 q)⟩
theorem SoonP.add {P : Int → Prop} {v e : Int} (h : SoonP P v) (h0 : 0 ≤ e) : ∃ v', round_soonest [v, e] = some v' ∧ SoonP (fun x => P x ∨ x = e) v' := by
  refine ⟨_, soonest2 v e h0, ?_⟩
  rcases h with ⟨h1, h2⟩ | ⟨h1, h2, h3⟩
  · rw [if_pos h1]
    exact .inr ⟨.inr rfl, h0, fun x hx => by
      rcases hx with hx | hx
      · exact absurd hx (h2 x)
      · omega⟩
  · rw [if_neg (by omega)]
    by_cases c : e < v
    · rw [if_pos c]
      exact .inr ⟨.inr rfl, h0, fun x hx => by
        rcases hx with hx | hx
        · have := h3 x hx; omega
        · omega⟩
    · rw [if_neg c]
      exact .inr ⟨.inl h1, h2, fun x hx => by
        rcases hx with hx | hx
        · exact h3 x hx
        · omega⟩
theorem SoonP.le {P : Int → Prop} {v b : Int} (h : SoonP P v) (_hP : ∀ e, P e → 0 ≤ e) : (0 ≤ v ∧ v ≤ b) ↔ ∃ e, P e ∧ e ≤ b := by
  rcases h with ⟨h1, h2⟩ | ⟨h1, h2, h3⟩
  · exact ⟨fun h => by omega, fun ⟨e, he, _⟩ => absurd he (h2 e)⟩
  · exact ⟨fun h => ⟨v, h1, h.2⟩, fun ⟨e, he, hb⟩ => ⟨h2, Int.le_trans (h3 e he) hb⟩⟩
structure Tab (N H : Nat) (P : Nat → Nat → Int → Prop) (out : List (List Int)) : Prop where
  len : out.length = N
  row : ∀ n, n < N → (out.getD n []).length = H
  val : ∀ n h, n < N → h < H → SoonP (P n h) ((out.getD n []).getD h 0)
theorem Tab.congr {N H : Nat} {P Q : Nat → Nat → Int → Prop} {out : List (List Int)} (h : Tab N H P out) (he : ∀ n h' e, n < N → h' < H → (P n h' e ↔ Q n h' e)) : Tab N H Q out :=
  ⟨h.len, h.row, fun n h' h1 h2 => (h.val n h' h1 h2).congr fun e => he n h' e h1 h2⟩
section
variable {ws hs : List (List Int)} {H st : Int} {ns : List (List Int × Int × Int)} {c : List Int} {ps : List (Int × Int)} {hit : List Int} {bd : Nat → Int}
theorem PrsOK.rng (h : BtOK ws hs H st ns) (hc : CrOK hs ns c ps hit) {q : Int × Int} (hq : q ∈ ps) : (0 ≤ q.1 ∧ q.1 < (ns.length : Int)) ∧ (0 ≤ q.2 ∧ q.2 < H) := by
  have hm := (hc.prs.mem _).1 hq
  exact ⟨hm.1, (h.note _ (getD_mem (d := ([], 0, 0)) (i := q.1.toNat) (by omega))).1.2.2 _ hm.2⟩
theorem bdL_hour (h : BtOK ws hs H st ns) {n : Nat} (hn : n < ns.length) : bdL ns 200 n = (ns.getD n ([], 0, 0)).2.2 := by
  have h1 : 0 ≤ (ns.getD n ([], 0, 0)).2.2 ∧ (ns.getD n ([], 0, 0)).2.2 ≤ 200 := (h.note _ (getD_mem (d := ([], 0, 0)) hn)).2.2
  unfold bdL; split <;> omega
end
end Go.Proofs.Ytfmapnhfamoecab.Rd
namespace Go.Proofs.Ytfmapnhfamoecab.Rd
open Go.PL Go.Proofs.Ytfmapnhfamoecab.Rv
theorem awake_eq : oyezlaw03_awake = some true := by decide +kernel
section
variable {ws hs : List (List Int)} {H st : Int} {ns : List (List Int × Int × Int)} {c : List Int} {ps : List (Int × Int)} {hit : List Int} {bd : Nat → Int} {D : Nat → Bool}
theorem sl_to {α : Type} (l : List α) (k : Nat) : sl l (k : Int) (l.length : Int) = l.drop k := by
  unfold sl; simp
end
end Go.Proofs.Ytfmapnhfamoecab.Rd
