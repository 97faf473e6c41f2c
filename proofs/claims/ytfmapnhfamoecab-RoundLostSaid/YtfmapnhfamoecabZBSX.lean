/- What a round leaves, pair by pair; in plain Lean. -/
import Derived.Test.YtfmapnhfamoecabZBSW
namespace Go.Proofs.Ytfmapnhfamoecab.Rd
open Go.PL
/-- Whether a round serves a pair by the hours. -/
def hitF (c : List Int) (ns : List (List Int × Int × Int)) (hit : List Int) (bd : Nat → Int) : Int → Int → List (Int × Int) → Nat → Bool
  | _, _, [], _ => false
  | k, m, x :: l, p => (decide (m + en c k.toNat x.1.toNat + wrd ns x.2.toNat ≤ bd x.2.toNat) && (hb hit x.1.toNat x.2.toNat).testBit p) || hitF c ns hit bd x.1 (m + en c k.toNat x.1.toNat + wrd ns x.2.toNat) l p
section
variable {c : List Int} {ns : List (List Int × Int × Int)} {hit : List Int} {bd bd' : Nat → Int} {S : Nat} {start : Int} {v0 : Nat} {H : Int}
theorem bit_rem : ∀ (l : List (Int × Int)) (k m : Int) (v p : Nat), (remF c ns hit bd k m v l).testBit p = (v.testBit p && !hitF c ns hit bd k m l p)
  | [], k, m, v, p => by simp [remF, hitF]
  | x :: l, k, m, v, p => by
    unfold remF hitF
    rw [bit_rem l]
    by_cases b : m + en c k.toNat x.1.toNat + wrd ns x.2.toNat ≤ bd x.2.toNat
    · rw [if_pos b, decide_eq_true b, bit_dif, Bool.true_and, Bool.not_or, Bool.and_assoc]
    · rw [if_neg b, decide_eq_false b, Bool.false_and, Bool.false_or]
theorem rem_zero {l : List (Int × Int)} {k m : Int} {v : Nat} : remF c ns hit bd k m v l = 0 ↔ ∀ p, v.testBit p = true → hitF c ns hit bd k m l p = true := by
  constructor
  · intro h p hp
    have := bit_rem (c := c) (ns := ns) (hit := hit) (bd := bd) l k m v p
    rw [h, Nat.zero_testBit, hp, Bool.true_and] at this
    cases e : hitF c ns hit bd k m l p with
    | true => rfl
    | false => rw [e] at this; cases this
  · intro h
    refine Nat.eq_of_testBit_eq fun p => ?_
    rw [bit_rem, Nat.zero_testBit]
    cases e : v.testBit p with
    | false => rfl
    | true => rw [h p e]; rfl
theorem rem_snoc {x : Int × Int} : ∀ (l : List (Int × Int)) (k m : Int) (v : Nat) (es : List Int), endsF c ns k m l = some es →
    remF c ns hit bd k m v (l ++ [x]) = if es.getLastD m + en c (plc k l).toNat x.1.toNat + wrd ns x.2.toNat ≤ bd x.2.toNat then dif (remF c ns hit bd k m v l) (hb hit x.1.toNat x.2.toNat) else remF c ns hit bd k m v l
  | [], k, m, v, es, h => by
    obtain rfl : [] = es := Option.some.inj h
    simp only [List.nil_append, remF, plc, List.map_nil, List.getLastD_nil]
  | y :: l, k, m, v, es, h => by
    unfold endsF at h
    by_cases e : en c k.toNat y.1.toNat = -1
    · rw [if_pos e] at h; cases h
    · rw [if_neg e] at h
      cases h2 : endsF c ns y.1 (m + en c k.toNat y.1.toNat + wrd ns y.2.toNat) l with
      | none => rw [h2] at h; cases h
      | some es2 =>
        rw [h2] at h
        obtain rfl := Option.some.inj h
        have ep : plc k (y :: l) = plc y.1 l := by unfold plc; rw [List.map_cons, List.getLastD_cons]
        have el : ((m + en c k.toNat y.1.toNat + wrd ns y.2.toNat) :: es2).getLastD m = es2.getLastD (m + en c k.toNat y.1.toNat + wrd ns y.2.toNat) := by rw [List.getLastD_cons]
        rw [List.cons_append]
        show remF c ns hit bd k m v (y :: (l ++ [x])) = _
        unfold remF
        rw [rem_snoc (x := x) l y.1 _ _ es2 h2, ep]
        show _ = if ((m + en c k.toNat y.1.toNat + wrd ns y.2.toNat) :: es2).getLastD m + _ + _ ≤ _ then _ else _
        rw [el]
/-- What is left by a round of which each cry serves something. -/
theorem Pth.rem {l : List (Int × Int)} {s : Int} {v : Nat} {t : Int} (h : Pth c ns hit bd S start v0 l s v t) : remF c ns hit bd start 0 v0 l = v := by
  induction h with
  | nil => rfl
  | @snoc l k v s n t h hk hs hn hne hv ih =>
    obtain ⟨es, e1, e2, e3, e4, e5⟩ := h.ends
    rw [rem_snoc l start 0 v0 es e1, e3, e2, ih, Int.toNat_natCast, Int.toNat_natCast, Int.toNat_natCast, if_pos hv.2]
/-- Later hours serve more. -/
theorem hit_mono (hbd : ∀ n, n < ns.length → bd n ≤ bd' n) {p : Nat} : ∀ (l : List (Int × Int)) (k m : Int), CryOK S ns.length l → hitF c ns hit bd k m l p = true → hitF c ns hit bd' k m l p = true
  | [], _, _, _, h => h
  | x :: l, k, m, hl, h => by
    unfold hitF at h ⊢
    rw [Bool.or_eq_true_iff, Bool.and_eq_true_iff, decide_eq_true_iff] at h ⊢
    obtain ⟨_, h2⟩ := hl x (by simp)
    rcases h with ⟨h3, h4⟩ | h3
    · exact .inl ⟨Int.le_trans h3 (hbd _ (by omega)), h4⟩
    · exact .inr (hit_mono hbd l _ _ (fun z hz => hl z (by simp [hz])) h3)
theorem countP_lt {α : Type} {p q : α → Bool} : ∀ {l : List α}, (∀ x ∈ l, q x = true → p x = true) → (∃ x ∈ l, p x = true ∧ q x = false) → l.countP q < l.countP p
  | [], _, ⟨x, hx, _⟩ => nomatch hx
  | y :: l, h, ⟨x, hx, h1, h2⟩ => by
    have hle : l.countP q ≤ l.countP p := List.countP_mono_left fun z hz => h z (by simp [hz])
    rw [List.countP_cons, List.countP_cons]
    rcases List.mem_cons.1 hx with rfl | hx
    · rw [h1, h2]; simp; omega
    · have ih := countP_lt (l := l) (fun z hz => h z (by simp [hz])) ⟨x, hx, h1, h2⟩
      cases hq : q y with
      | true => rw [h y (by simp) hq]; omega
      | false =>
        have : (if false = true then 1 else 0) = 0 := by simp
        rw [this]
        omega
def cnt (v : Nat) : Nat := (List.range 9).countP fun i => v.testBit i
theorem bit_nine {v i : Nat} (hv : v < 512) (h : v.testBit i = true) : i < 9 := by
  rcases Nat.lt_or_ge i 9 with h1 | h1
  · exact h1
  · have h2 : (2 : Nat) ^ 9 ≤ 2 ^ i := Nat.pow_le_pow_right (by decide) h1
    have h3 : (2 : Nat) ^ 9 = 512 := by decide
    rw [Nat.testBit_lt_two_pow (by omega)] at h; cases h
theorem cnt_dif {v w : Nat} (hv : v < 512) (hne : dif v w ≠ v) : cnt (dif v w) < cnt v := by
  refine countP_lt (fun i _ h => ?_) ?_
  · rw [bit_dif, Bool.and_eq_true_iff] at h; exact h.1
  · refine Classical.byContradiction fun hn => hne (Nat.eq_of_testBit_eq fun i => ?_)
    rw [bit_dif]
    cases e : v.testBit i with
    | false => rfl
    | true =>
      cases e2 : w.testBit i with
      | false => rfl
      | true => exact absurd ⟨i, List.mem_range.2 (bit_nine hv e), e, by rw [bit_dif, e, e2]; rfl⟩ hn
theorem Pth.le {l : List (Int × Int)} {s : Int} {v : Nat} {t : Int} (h : Pth c ns hit bd S start v0 l s v t) : v ≤ v0 := by
  have := h.len; omega
theorem Pth.few (hv : v0 < 512) {l : List (Int × Int)} {s : Int} {v : Nat} {t : Int} (h : Pth c ns hit bd S start v0 l s v t) : l.length + cnt v ≤ cnt v0 := by
  induction h with
  | nil => simp
  | @snoc l k v s n t h hk hs hn hne hv' ih =>
    have h1 := h.le
    have := cnt_dif (by omega) hne
    simp only [List.length_append, List.length_singleton]
    omega
end
section
variable {ws hs : List (List Int)} {H st : Int} {ns : List (List Int × Int × Int)} {c : List Int} {ps : List (Int × Int)} {hit : List Int} {bd bd' : Nat → Int} {v v' : Nat}
/-- Some round serves a set by the hours. -/
def Can (c : List Int) (ns : List (List Int × Int × Int)) (hit : List Int) (hs : List (List Int)) (st : Int) (bd : Nat → Int) (v : Nat) : Prop := ∃ l es, CryOK hs.length ns.length l ∧ endsF c ns st 0 l = some es ∧ remF c ns hit bd st 0 v l = 0
theorem Ser.can {l : List (Int × Int)} {t : Int} (h : Ser c ns hit hs st bd v l t) : ∃ es, CryOK hs.length ns.length l ∧ endsF c ns st 0 l = some es ∧ remF c ns hit bd st 0 v l = 0 ∧ es.getLastD 0 = t ∧ es.length = l.length := by
  obtain ⟨s, h⟩ := h
  obtain ⟨es, e1, e2, e3, e4, e5⟩ := h.ends
  exact ⟨es, e4, e1, h.rem, e2, e5⟩
theorem can_iff (h : BtOK ws hs H st ns) (hc : CrOK hs ns c ps hit) : Can c ns hit hs st bd v ↔ ∃ l t, Ser c ns hit hs st bd v l t := by
  constructor
  · rintro ⟨l, es, h1, h2, h3⟩
    obtain ⟨l', t, h4, _⟩ := shorten0 h hc h1 h2 h3
    exact ⟨l', t, h4⟩
  · rintro ⟨l, t, h1⟩
    obtain ⟨es, h2, h3, h4, _⟩ := h1.can
    exact ⟨l, es, h2, h3, h4⟩
theorem Can.mono (h : Can c ns hit hs st bd v) (hbd : ∀ n, n < ns.length → bd n ≤ bd' n) (hv : ∀ p, v'.testBit p = true → v.testBit p = true) : Can c ns hit hs st bd' v' := by
  obtain ⟨l, es, h1, h2, h3⟩ := h
  exact ⟨l, es, h1, h2, rem_zero.2 fun p hp => hit_mono hbd l _ _ h1 (rem_zero.1 h3 p (hv p hp))⟩
theorem Can.zero : Can c ns hit hs st bd 0 := ⟨[], [], fun _ h => (nomatch h), rfl, rfl⟩
end
end Go.Proofs.Ytfmapnhfamoecab.Rd
