/- Layer 1: what Apart, Must, Fewest, Best and Louder answer, in terms of who hears whom; in plain Lean. -/
import Derived.Test.YtejkgppikpkkpaaGreatZFHV
namespace Go.Proofs.YtejkgppikpkkpaaGreat
open Go.PL Go.Hear
section
variable {wide : Int} {ps : List Int} {w v : Int}
theorem nmE_iff : ∀ {r pre : List Int}, nmE ps pre r = 0 ↔ (∀ x ∈ r, isE ps x 1 = 0) ∧ (∀ x ∈ r, x ∉ pre) ∧ r.Nodup
  | [], pre => by
    constructor
    · intro _; exact ⟨(fun _ h => by cases h), (fun _ h => by cases h), List.Pairwise.nil⟩
    · intro _; rfl
  | y :: r, pre => by
    have ih := nmE_iff (r := r) (pre := pre ++ [y])
    unfold nmE
    by_cases h1 : isE ps y 1 = 0
    · rw [if_neg (not_not_intro h1)]
      by_cases h2 : y ∈ pre
      · rw [if_pos h2]
        constructor
        · intro h; cases h
        · rintro ⟨_, h, _⟩; exact absurd h2 (h y (List.mem_cons_self ..))
      · rw [if_neg h2, ih, List.nodup_cons]
        constructor
        · rintro ⟨a, b, c⟩
          refine ⟨fun x hx => ?_, fun x hx => ?_, fun hy => ?_, c⟩
          · rcases List.mem_cons.1 hx with rfl | hx
            · exact h1
            · exact a x hx
          · rcases List.mem_cons.1 hx with rfl | hx
            · exact h2
            · exact fun hp => b x hx (List.mem_append.2 (.inl hp))
          · exact b y hy (List.mem_append.2 (.inr (List.mem_singleton.2 rfl)))
        · rintro ⟨a, b, c, d⟩
          refine ⟨fun x hx => a x (List.mem_cons_of_mem _ hx), fun x hx hp => ?_, d⟩
          rcases List.mem_append.1 hp with hp | hp
          · exact b x (List.mem_cons_of_mem _ hx) hp
          · rw [List.mem_singleton] at hp; subst hp; exact c hx
    · rw [if_pos h1]
      constructor
      · intro h; exact absurd h h1
      · rintro ⟨h, _, _⟩; exact absurd (h y (List.mem_cons_self ..)) h1
theorem askE_iff {H : List Int} : askE wide ps w v H = 0 ↔ airE wide ps w v = 0 ∧ (∀ x ∈ H, isE ps x 1 = 0) ∧ H.Nodup := by
  unfold askE
  by_cases h : airE wide ps w v = 0
  · rw [if_neg (not_not_intro h), nmE_iff]
    constructor
    · rintro ⟨a, _, b⟩; exact ⟨h, a, b⟩
    · rintro ⟨_, a, b⟩; exact ⟨a, (fun _ _ h => by cases h), b⟩
  · rw [if_pos h]
    constructor
    · intro h'; exact absurd h' h
    · rintro ⟨h', _⟩; exact absurd h' h
theorem askE_perm {H H' : List Int} (h : H'.Perm H) (ha : askE wide ps w v H = 0) : askE wide ps w v H' = 0 := by
  obtain ⟨a, b, c⟩ := askE_iff.1 ha
  exact askE_iff.2 ⟨a, fun x hx => b x (h.subset hx), h.nodup_iff.2 c⟩
/-- What a house hears. -/
def rowH (wide : Int) (ps : List Int) (w v : Int) (h : Int) : List Bool := rowP wide ps w v ps.length h.toNat
theorem askR_eq (H : List Int) : askR wide ps w v H = H.map (rowH wide ps w v) := rfl
theorem common_l2 {x y : List Bool} (hx : x.length = 30) (hy : y.length = 30) : ∀ (fu k : Nat), k + fu = 30 → hear_ears_common_l2 x y fu (k : Int) = some ((List.range' k fu).any fun s => x.getD s false && y.getD s false)
  | 0, k, _ => rfl
  | fu + 1, k, hk => by
    have ih := common_l2 hx hy fu (k + 1) (by omega)
    unfold hear_ears_common_l2
    have e1 : ∀ (z : List Bool) (f : Bool → Option Bool), z.length = 30 → ix z (k : Int) f = f (z.getD k false) := fun z f hz => ix_t (by omega) (by rw [Int.toNat_natCast]; exact (by rw [List.getD_eq_getElem?_getD, List.getElem?_eq_getElem (by omega)]; rfl))
    rw [e1 x _ hx, List.range'_succ, List.any_cons]
    cases h1 : x.getD k false with
    | false =>
      rw [if_neg (by decide), b1_some, if_neg (by decide), show (k : Int) + 1 = ((k + 1 : Nat) : Int) from rfl, ih, Bool.false_and, Bool.false_or]
    | true =>
      rw [if_pos rfl, e1 y _ hy, b1_some]
      cases h2 : y.getD k false with
      | true => rw [if_pos rfl]; rfl
      | false => rw [if_neg (by decide), show (k : Int) + 1 = ((k + 1 : Nat) : Int) from rfl, ih]; rfl
theorem common_eq {x y : List Bool} (hx : x.length = 30) (hy : y.length = 30) : hear_ears_common x y = some (comB x y) := by
  have h := common_l2 hx hy 30 0 rfl
  unfold hear_ears_common
  rw [gd_t ⟨by decide, by decide⟩]
  have h' : hear_ears_common_l2 x y (Int.toNat (30 - 0)) 0 = _ := h
  rw [h']
  unfold comB
  rw [List.range_eq_range']
section
variable {R : List (List Bool)} {own : List Int} {count : Int → Option Int}
def comR (R : List (List Bool)) (i j : Nat) : Bool := comB (R.getD i []) (R.getD j [])
theorem apart_ok (hR : ∀ r ∈ R, r.length = 30) {l : List Nat} {f : Nat} (hl : ∀ x ∈ l, x < R.length) (hf : f < R.length) : hear_every_int (l.map Int.ofNat) (fun xx_ : Int => hear_Apart_1_1 xx_ R count (f : Int)) = some (l.all fun k => !comR R k f) := by
  have hg : ∀ i, i < R.length → (R.getD i []).length = 30 := fun i hi => by
    rw [List.getD_eq_getElem?_getD, List.getElem?_eq_getElem hi]; exact hR _ (List.getElem_mem _)
  rw [everyI_eq (p := fun x => !comR R x.toNat f) (fun x hx => ?_), List.all_map]
  · rfl
  · obtain ⟨k, hk, rfl⟩ := List.mem_map.1 hx
    unfold hear_Apart_1_1
    show ix R (k : Int) _ = _
    rw [ixL _ (hl k hk), ixL _ hf, common_eq (hg k (hl k hk)) (hg f hf), b1_some]
    rfl
theorem apart_loop (hR : ∀ r ∈ R, r.length = 30) (hn : R.length ≤ 100) (ho : own.length = R.length) {rec_ : List Int → Int → List Int → List Int → List (List Bool) → (Int → Option Int) → Option (List Int)} {n : Nat}
    (hrec : ∀ (d f : Nat) (l out : List Nat), f + d = R.length → d < n → (∀ x ∈ l, x < R.length) → l.length ≤ f → rec_ (l.map Int.ofNat) (f : Int) (out.map Int.ofNat) own R count = some ((lng out (l :: kids (comR R) d f l)).map Int.ofNat)) :
    ∀ (d f : Nat) (l out : List Nat) (fu : Nat), f + d = R.length → d ≤ n → d < fu → (∀ x ∈ l, x < R.length) → l.length ≤ f → hear_Apart_1B_l1 (l.map Int.ofNat) own R count rec_ fu (out.map Int.ofNat) (f : Int) = some ((lng out (kids (comR R) d f l)).map Int.ofNat)
  | _, _, _, _, 0, _, _, h, _, _ => absurd h (Nat.not_lt_zero _)
  | 0, f, l, out, fu + 1, hf, _, _, _, _ => by
    unfold hear_Apart_1B_l1
    rw [if_neg (by omega)]; rfl
  | d + 1, f, l, out, fu + 1, hf, hn', hfu, hl, hlf => by
    have hfR : f < R.length := by omega
    have ih := fun out => apart_loop hR hn ho hrec d (f + 1) l out fu (by omega) (by omega) (by omega) hl (by omega)
    unfold hear_Apart_1B_l1
    rw [if_pos (by omega), apart_ok hR hl hfR, b1_some]
    unfold kids
    rw [lng_app]
    have ek : (f : Int) + 1 = ((f + 1 : Nat) : Int) := rfl
    by_cases hc : (l.all fun k => !comR R k f) = true
    · have h1 := hrec d (f + 1) (l ++ [f]) out (by omega) (by omega) (fun x hx => by
        rcases List.mem_append.1 hx with hx | hx
        · exact hl x hx
        · rw [List.mem_singleton] at hx; omega) (by simp; omega)
      have e1 : (l ++ [f]).map Int.ofNat = l.map Int.ofNat ++ [(f : Int)] := by rw [List.map_append]; rfl
      rw [e1] at h1
      rw [hc, if_pos rfl, gd_t (r64_small (by omega)), cloneI_eq (by rw [List.length_map]; omega), b1_some, ap_t (by simp; omega), ek, h1, b1_some, b1_some, gd_t (r64_small (by omega)), if_pos rfl, ih]
    · rw [if_neg hc, if_neg hc, b1_some, gd_t (r64_small (by omega)), ek, ih]; rfl
theorem apart_rec (hR : ∀ r ∈ R, r.length = 30) (hn : R.length ≤ 100) (ho : own.length = R.length) : ∀ (n d f : Nat) (l out : List Nat), f + d = R.length → d < n → (∀ x ∈ l, x < R.length) → l.length ≤ f → hear_Apart_1 n (l.map Int.ofNat) (f : Int) (out.map Int.ofNat) own R count = some ((lng out (l :: kids (comR R) d f l)).map Int.ofNat)
  | 0, _, _, _, _, _, h, _, _ => absurd h (Nat.not_lt_zero _)
  | n + 1, d, f, l, out, hf, hd, hl, hlf => by
    have ih := fun d f l out h1 h2 h3 h4 => apart_rec hR hn ho n d f l out h1 h2 h3 h4
    unfold hear_Apart_1 hear_Apart_1B
    have e : (if ((out.map Int.ofNat).length : Int) < ((l.map Int.ofNat).length : Int) then (b1 (slices_Clone_int_int (l.map Int.ofNat)) fun l2 => some l2) else some (out.map Int.ofNat)) = some ((if out.length < l.length then l else out).map Int.ofNat) := by
      rw [cloneI_eq (by rw [List.length_map]; omega), b1_some, List.length_map, List.length_map]
      by_cases h : out.length < l.length
      · rw [if_pos (by omega), if_pos h]
      · rw [if_neg (by omega), if_neg h]
    rw [e, b1_some]
    exact apart_loop hR hn ho ih d f l _ FU hf (by omega) (by unfold FU; omega) hl hlf
theorem apart_l1 : ∀ (L pre : List Nat) (A : List Int), (∀ x ∈ L, x < own.length) → A = pre.map (fun i => own.getD i 0) ++ L.map Int.ofNat → hear_Apart_l1 own L.length (pre.length : Int) A = some ((pre ++ L).map fun i => own.getD i 0)
  | [], pre, A, _, h => by
    show some A = _
    rw [h]; simp
  | x :: L, pre, A, hL, h => by
    have ih := apart_l1 L (pre ++ [x]) ((pre ++ [x]).map (fun i => own.getD i 0) ++ L.map Int.ofNat) (fun y hy => hL y (List.mem_cons_of_mem _ hy)) rfl
    rw [List.length_append, List.length_singleton, List.append_assoc] at ih
    have hx := hL x (List.mem_cons_self ..)
    have e1 : A = (pre.map fun i => own.getD i 0) ++ (x : Int) :: L.map Int.ofNat := h
    have hg : A.getD pre.length 0 = (x : Int) := by
      rw [e1]
      have := getA (a := pre.map fun i => own.getD i 0) (x := (x : Int)) (tl := L.map Int.ofNat)
      rwa [List.length_map] at this
    have hs : A.set pre.length (own.getD x 0) = (pre ++ [x]).map (fun i => own.getD i 0) ++ L.map Int.ofNat := by
      rw [e1]
      have := setA (a := pre.map fun i => own.getD i 0) (x := (x : Int)) (y := own.getD x 0) (tl := L.map Int.ofNat)
      rw [List.length_map] at this
      rw [this]; simp
    rw [List.length_cons]
    unfold hear_Apart_l1
    rw [ixI _ (by rw [e1]; simp), hg, ixI _ hx, bvE, Int.toNat_natCast, hs]
    exact ih
end
/-- Apart: houses that are apart, of those that are sorted. -/
theorem Apart_eq (hn : ps.length ≤ 1000) {H : List Int} (hH : H.length ≤ 12) (ha : askE wide ps w v H = 0) : ∃ own, own.Perm H ∧ own.Pairwise (· ≤ ·) ∧ hear_Apart wide ps w v H = some (apV (rowH wide ps w v) own, 0) ∧ IsAp (rowH wide ps w v) H (apV (rowH wide ps w v) own) := by
  obtain ⟨own, h1, h2, h3⟩ := sortedS_eq hH
  have hlen := h2.length_eq
  have ha' := askE_perm h2 ha
  obtain ⟨_, _, hnd⟩ := askE_iff.1 ha'
  refine ⟨own, h2, h3, ?_, apV_ok hnd fun h => h2.mem_iff⟩
  have hR30 := askR_30 (wide := wide) (ps := ps) (w := w) (v := v) own
  have hRl := askR_len wide ps w v own
  have key := apart_rec (R := askR wide ps w v own) (own := own) (count := fun xx_ : Int => hear_ones xx_) hR30 (by omega) hRl.symm FU own.length 0 [] [] (by omega) (by unfold FU; omega) (fun _ h => by cases h) (Nat.le_refl _)
  have ec : kids (comR (askR wide ps w v own)) own.length 0 [] = kids (fun i j => comB (rowH wide ps w v (own.getD i 0)) (rowH wide ps w v (own.getD j 0))) own.length 0 [] := by
    have gen : ∀ d f l, f + d = own.length → (∀ x ∈ l, x < own.length) → kids (comR (askR wide ps w v own)) d f l = kids (fun i j => comB (rowH wide ps w v (own.getD i 0)) (rowH wide ps w v (own.getD j 0))) d f l := by
      intro d
      induction d with
      | zero => intro _ _ _ _; rfl
      | succ d ih =>
        intro f l hf hl
        unfold kids
        have e0 : ∀ i, i < own.length → (askR wide ps w v own).getD i [] = rowH wide ps w v (own.getD i 0) := fun i hi => by
          rw [askR_eq, List.getD_eq_getElem?_getD, List.getElem?_map, List.getElem?_eq_getElem hi, List.getD_eq_getElem?_getD, List.getElem?_eq_getElem hi]; rfl
        have e1 : (l.all fun k => !comR (askR wide ps w v own) k f) = (l.all fun k => !comB (rowH wide ps w v (own.getD k 0)) (rowH wide ps w v (own.getD f 0))) := by
          rw [Bool.eq_iff_iff, List.all_eq_true, List.all_eq_true]
          unfold comR
          constructor
          · intro h k hk; have := h k hk; rwa [e0 k (hl k hk), e0 f (by omega)] at this
          · intro h k hk; have := h k hk; rwa [e0 k (hl k hk), e0 f (by omega)]
        rw [e1, ih (f + 1) l (by omega) hl, ih (f + 1) (l ++ [f]) (by omega) (fun x hx => by
          rcases List.mem_append.1 hx with hx | hx
          · exact hl x hx
          · rw [List.mem_singleton] at hx; omega)]
    exact gen own.length 0 [] (by omega) (fun _ h => by cases h)
  have key2 : hear_Apart_1 FU [] 0 [] own (askR wide ps w v own) (fun xx_ : Int => hear_ones xx_) = some ((lngK (fun i j => comB (rowH wide ps w v (own.getD i 0)) (rowH wide ps w v (own.getD j 0))) own.length).map Int.ofNat) := by
    have : lng [] ([] :: kids (comR (askR wide ps w v own)) own.length 0 []) = lng [] (kids (comR (askR wide ps w v own)) own.length 0 []) := rfl
    rw [this, ec] at key
    exact key
  obtain ⟨hgd, _⟩ := lngK_ok (fun i j => comB (rowH wide ps w v (own.getD i 0)) (rowH wide ps w v (own.getD j 0))) own.length
  have hlt := (gd_iff.1 hgd).1
  have hll : (lngK (fun i j => comB (rowH wide ps w v (own.getD i 0)) (rowH wide ps w v (own.getD j 0))) own.length).length ≤ own.length := by
    have hnd' : (lngK (fun i j => comB (rowH wide ps w v (own.getD i 0)) (rowH wide ps w v (own.getD j 0))) own.length).Nodup := List.Pairwise.imp (fun h => Nat.ne_of_lt h) hlt.1
    have := List.Nodup.length_le_of_subset (l₂ := List.range own.length) hnd' fun x hx => List.mem_range.2 (hlt.2 x hx).2
    rwa [List.length_range] at this
  have fin := apart_l1 (own := own) (lngK (fun i j => comB (rowH wide ps w v (own.getD i 0)) (rowH wide ps w v (own.getD j 0))) own.length) [] _ (fun x hx => (hlt.2 x hx).2) rfl
  have fin' : hear_Apart_l1 own (lngK (fun i j => comB (rowH wide ps w v (own.getD i 0)) (rowH wide ps w v (own.getD j 0))) own.length).length 0 ((lngK (fun i j => comB (rowH wide ps w v (own.getD i 0)) (rowH wide ps w v (own.getD j 0))) own.length).map Int.ofNat) = _ := fin
  unfold hear_Apart
  rw [values_eq, b1_some]
  rw [values_eq, b1_some] at h1
  rw [h1, b1_some, asked_eq hn H (by omega), ha, b3_some, if_neg (fun h => h rfl), asked_eq hn own (by omega), ha', b3_some, gd_t (decide_eq_true rfl), if_pos rfl, key2, b1_some, gd_t ⟨by decide, r64_small (by rw [List.length_map]; omega)⟩, List.length_map, show ∀ n : Nat, Int.toNat ((n : Int) - 0) = n from fun n => by omega, fin', b1_some]
  rfl
end
end Go.Proofs.YtejkgppikpkkpaaGreat
