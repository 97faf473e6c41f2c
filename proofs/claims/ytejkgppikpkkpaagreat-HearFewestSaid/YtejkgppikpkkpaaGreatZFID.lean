/- Layer 1: the reference's fewest stands, stands that cannot be left out, houses that are apart; HearFewest; in plain Lean. -/
import Derived.Test.YtejkgppikpkkpaaGreatZFIA
import Derived.Test.YtejkgppikpkkpaaGreatZFHN
namespace Go.Proofs.YtejkgppikpkkpaaGreat
open Go.PL Go.Hear
theorem lex_pre : ∀ (l : List Nat) {a b : List Nat}, lexLe a b → lexLe (l ++ a) (l ++ b)
  | [], _, _, h => h
  | _ :: l, _, _, h => .inr ⟨rfl, lex_pre l h⟩
section
variable {com : Nat → Nat → Bool}
theorem kids_sorted : ∀ (d f : Nat) (l : List Nat), (kids com d f l).Pairwise fun a b => a.length = b.length → lexLe a b
  | 0, _, _ => List.Pairwise.nil
  | d + 1, f, l => by
    have ih1 := kids_sorted d (f + 1) (l ++ [f])
    have ih2 := kids_sorted d (f + 1) l
    unfold kids
    by_cases hc : (l.all fun k => !com k f) = true
    · rw [if_pos hc, List.pairwise_append]
      refine ⟨List.pairwise_cons.2 ⟨fun b hb he => ?_, ih1⟩, ih2, fun a ha b hb _ => ?_⟩
      · obtain ⟨x, t, rfl, _⟩ := mem_kids.1 hb
        simp at he
      · obtain ⟨x, t, rfl, ⟨h1, _⟩, _⟩ := mem_kids.1 hb
        rcases List.mem_cons.1 ha with rfl | ha
        · exact lex_pre l (.inl (by omega))
        · obtain ⟨y, u, rfl, _⟩ := mem_kids.1 ha
          rw [List.append_assoc]
          exact lex_pre l (.inl (by omega))
    · rw [if_neg hc, List.nil_append]; exact ih2
theorem lng_same : ∀ (Q : List (List Nat)) (o : List Nat), (lng o Q).length ≤ o.length → lng o Q = o
  | [], _, _ => rfl
  | z :: Q, o, hl => by
    have e2 : lng o (z :: Q) = lng (if o.length < z.length then z else o) Q := rfl
    rw [e2] at hl ⊢
    by_cases hz : o.length < z.length
    · rw [if_pos hz] at hl
      have := (lng_ok Q z).2.1
      omega
    · rw [if_neg hz] at hl ⊢
      exact lng_same Q o hl
theorem lng_first : ∀ (Q : List (List Nat)) (o x : List Nat), (Q.Pairwise fun a b => a.length = b.length → lexLe a b) → x ∈ Q → x.length = (lng o Q).length → o.length < x.length → lexLe (lng o Q) x
  | [], _, _, _, h, _, _ => by cases h
  | y :: Q, o, x, hp, hx, he, ho => by
    have e2 : lng o (y :: Q) = lng (if o.length < y.length then y else o) Q := rfl
    have p := List.pairwise_cons.1 hp
    rw [e2] at he ⊢
    by_cases h : o.length < y.length
    · rw [if_pos h] at he ⊢
      have hge := (lng_ok Q y).2.1
      rcases List.mem_cons.1 hx with e | hx
      · subst e
        rw [lng_same Q x (by omega)]; exact lexLe_refl x
      · rcases Nat.lt_or_ge y.length x.length with h1 | h1
        · exact lng_first Q y x p.2 hx he h1
        · rw [lng_same Q y (by omega)]
          exact p.1 x hx (by omega)
    · rw [if_neg h] at he ⊢
      rcases List.mem_cons.1 hx with e | hx
      · subst e; exact absurd ho h
      · exact lng_first Q o x p.2 hx he ho
theorem lngK_first (n : Nat) {L : List Nat} (h : Gd com n 0 [] L) (he : L.length = (lngK com n).length) : lexLe (lngK com n) L := by
  cases L with
  | nil =>
    have : lngK com n = [] := List.length_eq_zero_iff.1 he.symm
    rw [this]; trivial
  | cons x t => exact lng_first _ [] _ (kids_sorted n 0 []) (mem_kids.2 ⟨x, t, rfl, by rwa [Nat.zero_add]⟩) he (by simp)
end
/-- The order of lists that are carried over by something that goes up. -/
theorem lex_map {f : Nat → Nat} {n : Nat} (hf : ∀ i j, i < n → j < n → i < j → f i < f j) : ∀ {a b : List Nat}, (∀ x ∈ a, x < n) → (∀ x ∈ b, x < n) → lexLe a b → lexLe (a.map f) (b.map f)
  | [], _, _, _, _ => trivial
  | x :: a, [], _, _, h => by cases h
  | x :: a, y :: b, ha, hb, h => by
    rcases h with h | ⟨rfl, h⟩
    · exact .inl (hf x y (ha x (List.mem_cons_self ..)) (hb y (List.mem_cons_self ..)) h)
    · exact .inr ⟨rfl, lex_map hf (fun z hz => ha z (List.mem_cons_of_mem _ hz)) (fun z hz => hb z (List.mem_cons_of_mem _ hz)) h⟩
theorem cptGI_lt : ∀ {p : Int} {l : List Int}, (p :: l).Pairwise (· ≤ ·) → (p :: cptGI p l).Pairwise (· < ·)
  | p, [], _ => List.pairwise_singleton ..
  | p, y :: l, h => by
    have h1 := List.pairwise_cons.1 h
    have h2 := List.pairwise_cons.1 h1.2
    unfold cptGI
    by_cases hy : y = p
    · rw [if_pos hy]
      exact cptGI_lt (List.pairwise_cons.2 ⟨fun x hx => h1.1 x (List.mem_cons_of_mem _ hx), h2.2⟩)
    · rw [if_neg hy]
      have ih := cptGI_lt h1.2
      have hpy := h1.1 y (List.mem_cons_self ..)
      refine List.pairwise_cons.2 ⟨fun x hx => ?_, ih⟩
      rcases List.mem_cons.1 hx with rfl | hx
      · omega
      · have := (List.pairwise_cons.1 ih).1 x hx; omega
theorem cptI_lt {l : List Int} (h : l.Pairwise (· ≤ ·)) : (cptI l).Pairwise (· < ·) := by
  cases l with
  | nil => exact List.Pairwise.nil
  | cons x l => exact cptGI_lt h
theorem lt_uniq {a b : List Int} (ha : a.Pairwise (· < ·)) (hb : b.Pairwise (· < ·)) (h : ∀ x, x ∈ a ↔ x ∈ b) : a = b :=
  sorted_uniq ((List.perm_ext_iff_of_nodup (ha.imp fun h => by omega) (hb.imp fun h => by omega)).2 h) (ha.imp fun h => by omega) (hb.imp fun h => by omega)
section
variable {wide : Int} {ps : List Int} {w v : Int}
theorem earR_get {h : Int} (hh : 0 ≤ h ∧ h < ps.length) {β : Type} (f : List Int → Option β) : ix (earR wide ps w v) h f = f (stL wide ps w v h) := by
  unfold earR
  rw [ix_t hh.1 (tabN_get _ (by omega))]; rfl
theorem rdeaf_eq : ∀ {H : List Int}, (∀ x ∈ H, 0 ≤ x ∧ x < ps.length) → ∃ b, oyezref01_deaf (earR wide ps w v) H = some b ∧ (b = true ↔ ∃ h ∈ H, stL wide ps w v h = [])
  | [], _ => ⟨false, rfl, by simp⟩
  | h :: H, hH => by
    obtain ⟨b, b1', b2'⟩ := rdeaf_eq (H := H) fun x hx => hH x (List.mem_cons_of_mem _ hx)
    unfold oyezref01_deaf at b1' ⊢
    unfold oyezref01_deaf_l2
    rw [earR_get (hH h (List.mem_cons_self ..))]
    by_cases hc : stL wide ps w v h = []
    · exact ⟨true, by rw [hc]; rfl, ⟨fun _ => ⟨h, List.mem_cons_self .., hc⟩, fun _ => rfl⟩⟩
    · have : ¬ ((stL wide ps w v h).length : Int) = 0 := fun h0 => hc (List.length_eq_zero_iff.1 (by omega))
      refine ⟨b, by rw [if_neg this]; exact b1', ?_⟩
      rw [b2']
      constructor
      · rintro ⟨x, hx, he⟩; exact ⟨x, List.mem_cons_of_mem _ hx, he⟩
      · rintro ⟨x, hx, he⟩
        rcases List.mem_cons.1 hx with rfl | hx
        · exact absurd he hc
        · exact ⟨x, hx, he⟩
theorem rserved_all {H : List Int} (hH : Hs wide ps w v H) (L : List Nat) : ∃ n : Nat, oyezref01_served (earR wide ps w v) H (L.map Int.ofNat) = some (n : Int) ∧ n ≤ H.length ∧ (n = H.length ↔ All (askR wide ps w v H) L) := by
  have hr : ∀ x ∈ H, 0 ≤ x ∧ x < ps.length := fun x hx => (hH.is x hx).1
  have hn := hH.n30
  have hl := hH.len
  refine ⟨_, served_eq hr (by omega) L, ?_, ?_⟩
  · have := cntT_le (cov (hrS wide ps w v H) (List.replicate H.length false) L)
    rw [← colS_eq hn, ← askR_len wide ps w v H] at this ⊢
    have e0 : List.replicate (askR wide ps w v H).length false = (askR wide ps w v H).map fun _ => false := by rw [List.map_const']
    have e1 : colS (askR wide ps w v H) = fun s => (askR wide ps w v H).map fun r => r.getD s false := rfl
    rw [e0, e1, cov_map, cnt_map]
    exact List.countP_le_length
  · rw [← colS_eq hn, ← askR_len wide ps w v H, all_cov]
theorem rfew_l3 {H : List Int} (hH : Hs wide ps w v H) {many : Int} {rec1 : Int → Option (List Int × Int)} {L : List Nat} (hL : All (askR wide ps w v H) L) : ∀ Q : List (List Nat), (∀ x ∈ Q, All (askR wide ps w v H) x → x.length = L.length ∧ lexLe L x) → Q.Pairwise lexLe → L ∈ Q → oyezref01_Fewest_l3 H (earR wide ps w v) many rec1 (Q.map (·.map Int.ofNat)) = some (L.map Int.ofNat, 0)
  | [], _, _, h => by cases h
  | x :: Q, hQ, hp, hm => by
    have p := List.pairwise_cons.1 hp
    obtain ⟨n, n1, n2, n3⟩ := rserved_all hH x
    rw [List.map_cons]
    unfold oyezref01_Fewest_l3
    rw [n1, b1_some]
    by_cases hx : All (askR wide ps w v H) x
    · obtain ⟨q1, q2⟩ := hQ x (List.mem_cons_self ..) hx
      have : x = L := by
        rcases List.mem_cons.1 hm with e | hm
        · exact e.symm
        · exact lexLe_anti q1 (p.1 L hm) q2
      rw [if_pos (by have := n3.2 hx; omega), this]
    · have hne : L ≠ x := fun e => hx (e ▸ hL)
      have hm' : L ∈ Q := (List.mem_cons.1 hm).resolve_left hne
      rw [if_neg (fun h => hx (n3.1 (by omega)))]
      exact rfew_l3 hH hL Q (fun y hy => hQ y (List.mem_cons_of_mem _ hy)) p.2 hm'
theorem rfew_no {H : List Int} (hH : Hs wide ps w v H) {many : Int} {rec1 : Int → Option (List Int × Int)} : ∀ Q : List (List Nat), (∀ x ∈ Q, ¬ All (askR wide ps w v H) x) → oyezref01_Fewest_l3 H (earR wide ps w v) many rec1 (Q.map (·.map Int.ofNat)) = oyezref01_Fewest_j2 many rec1
  | [], _ => rfl
  | x :: Q, hQ => by
    obtain ⟨n, n1, n2, n3⟩ := rserved_all hH x
    rw [List.map_cons]
    unfold oyezref01_Fewest_l3
    rw [n1, b1_some, if_neg (fun h => hQ x (List.mem_cons_self ..) (n3.1 (by omega)))]
    exact rfew_no hH Q fun y hy => hQ y (List.mem_cons_of_mem _ hy)
theorem sub_stands (hn : ps.length ≤ 30) {x : List Nat} {k : Nat} (hx : x ∈ subs (stN ps) k) : Inc 0 x ∧ x.length = k := by
  obtain ⟨h1, h2⟩ := mem_subs.1 hx
  exact ⟨sub_inc stN_sorted (fun s hs => by have := (stN_mem.1 hs).1; omega) h1, h2⟩
theorem rfew_l1 {H : List Int} (hH : Hs wide ps w v H) (hst : (stN ps).length ≤ 12) {L : List Nat} (hL : IsFew (askR wide ps w v H) L) (hs : ∀ s ∈ L, stP ps s = true) : ∀ (d k fu : Nat), k + d = L.length → d < fu → oyezref01_Fewest_l1 wide ps H (earR wide ps w v) fu (k : Int) = some (L.map Int.ofNat, 0)
  | _, _, 0, _, h => absurd h (Nat.not_lt_zero _)
  | d, k, fu + 1, hk, h => by
    have hn := hH.n30
    have hLl := hL.inc.len (by omega)
    unfold oyezref01_Fewest_l1
    rw [rstreets_eq (by omega), b1_some, lists_eq FU k (stN ps) (by unfold FU; omega) (by omega) hst, b1_some]
    cases d with
    | zero =>
      refine rfew_l3 hH hL.all _ (fun x hx ha => ?_) (subs_sorted stN_sorted) ?_
      · obtain ⟨i1, i2⟩ := sub_stands hn hx
        rcases hL.min x i1 ha with h1 | ⟨h1, h2⟩
        · omega
        · exact ⟨h1.symm, h2⟩
      · exact mem_subs.2 ⟨inc_sub stN_sorted hL.inc fun s hs' => stN_mem.2 (stP_iff.1 (hs s hs')), by omega⟩
    | succ d =>
      rw [rfew_no hH _ fun x hx ha => by
        obtain ⟨i1, i2⟩ := sub_stands hn hx
        rcases hL.min x i1 ha with h1 | ⟨h1, _⟩ <;> omega]
      unfold oyezref01_Fewest_j2
      rw [gd_t (r64_small (by omega)), show (k : Int) + 1 = ((k + 1 : Nat) : Int) from rfl]
      exact rfew_l1 hH hst hL hs d (k + 1) fu (by omega) (by omega)
theorem few_same {H : List Int} (hH : Hs wide ps w v H) (hst : (stN ps).length ≤ 12) : ∃ l e, hear_Fewest wide ps w v H = some (l, e) ∧ oyezref01_Fewest wide ps w v H = some (l, e) := by
  have hn := hH.n30
  obtain ⟨b, d1, d2⟩ := rdeaf_eq (wide := wide) (w := w) (v := v) (H := H) fun x hx => (hH.is x hx).1
  have e : oyezref01_Fewest wide ps w v H = if b = true then some ([], 6) else oyezref01_Fewest_l1 wide ps H (earR wide ps w v) FU 0 := by
    unfold oyezref01_Fewest
    rw [rAsked_eq (by omega), hH.ask, b1_some, if_neg (fun h => h rfl), Ears_eq hH.open, b1_some, d1, b1_some]
  rcases Few_eq hH with ⟨c1, c2⟩ | ⟨c1, L, c2, c3⟩
  · exact ⟨_, _, c2, by rw [e, if_pos (d2.2 c1)]⟩
  · refine ⟨_, _, c2, ?_⟩
    rw [e, if_neg (fun h => by obtain ⟨x, hx, he⟩ := d2.1 h; exact c1 x hx he)]
    exact rfew_l1 hH hst c3 (fun s hs => c3.use (stP ps) (col_no hn _) s hs) L.length 0 FU (by omega) (by unfold FU; have := c3.inc.len (by omega); omega)
theorem must_iff (hn : ps.length ≤ 30) {H : List Int} (hnd : ∀ h ∈ H, stL wide ps w v h ≠ []) {s : Nat} {L : List Nat} (hL : ∀ t, t ∈ L ↔ t ∈ stN ps ∧ t ≠ s) : ¬ All (askR wide ps w v H) L ↔ ∃ h ∈ H, stL wide ps w v h = [(s : Int)] := by
  constructor
  · intro hno
    refine Classical.byContradiction fun hno2 => hno fun r hr => ?_
    rw [askR_eq] at hr
    obtain ⟨h, hh, rfl⟩ := List.mem_map.1 hr
    refine Classical.byContradiction fun hn2 => hno2 ⟨h, hh, (lst_one (lstN_lt _ _)).2 ?_⟩
    have hev : ∀ y ∈ stL wide ps w v h, y = (s : Int) := fun y hy => by
      refine Classical.byContradiction fun hyx => hn2 ⟨y.toNat, ?_, ?_⟩
      · have := hears_iff.1 hy
        exact (hL _).2 ⟨stN_mem.2 ⟨by omega, hr_street this.2⟩, by omega⟩
      · have := hears_iff.1 hy
        exact (rowH_true hn (by omega)).2 ⟨by omega, this.2⟩
    obtain ⟨y, hy⟩ : ∃ y, y ∈ stL wide ps w v h := List.exists_mem_of_ne_nil _ (hnd h hh)
    refine ⟨?_, hev⟩
    have e := hev y hy
    rw [← e]; exact hy
  · rintro ⟨h, hh, he⟩ ha
    obtain ⟨t, t1, t2⟩ := ha (rowH wide ps w v h) (by rw [askR_eq]; exact List.mem_map.2 ⟨h, hh, rfl⟩)
    obtain ⟨t3, t4⟩ := (hL t).1 t1
    have t5 := (stN_mem.1 t3).1
    have t6 := (rowH_true hn (by omega)).1 t2
    have hm : (t : Int) ∈ stL wide ps w v h := hears_iff.2 ⟨⟨by omega, by omega⟩, by rw [Int.toNat_natCast]; exact t6.2⟩
    rw [he, List.mem_singleton] at hm
    omega
theorem without {l : List Nat} (hl : l.Pairwise (· < ·)) {i : Nat} (hi : i < l.length) (t : Nat) : t ∈ l.take i ++ l.drop (i + 1) ↔ t ∈ l ∧ t ≠ l[i] := by
  have e : l = l.take i ++ l[i] :: l.drop (i + 1) := by
    rw [← List.drop_eq_getElem_cons hi, List.take_append_drop]
  have hnd : (l.take i ++ l[i] :: l.drop (i + 1)).Nodup := by
    rw [← e]; exact hl.imp fun h => by omega
  rw [List.nodup_append] at hnd
  obtain ⟨_, n2, n3⟩ := hnd
  have n4 := List.nodup_cons.1 n2
  have hm : t ∈ l ↔ t ∈ l.take i ++ l[i] :: l.drop (i + 1) := by rw [← e]
  rw [hm]
  simp only [List.mem_append, List.mem_cons]
  constructor
  · rintro (h | h)
    · refine ⟨.inl h, fun he => ?_⟩
      exact n3 t h (l[i]) (List.mem_cons_self ..) he
    · exact ⟨.inr (.inr h), fun he => n4.1 (he ▸ h)⟩
  · rintro ⟨h | h | h, hne⟩
    · exact .inl h
    · exact absurd h hne
    · exact .inr h
theorem rmust_l1 {H : List Int} (hH : Hs wide ps w v H) (hnd : ∀ h ∈ H, stL wide ps w v h ≠ []) : ∀ (tl pre : List Nat) (acc : List Int), stN ps = pre ++ tl → acc.length + tl.length ≤ 1000 → acc.Pairwise (· < ·) → (∀ x ∈ acc, ∃ t ∈ pre, x = (t : Int)) → (∀ t ∈ pre, (t : Int) ∈ acc ↔ ∃ h ∈ H, stL wide ps w v h = [(t : Int)]) →
    ∃ M : List Int, oyezref01_Must_l1 H (earR wide ps w v) ((stN ps).map Int.ofNat) (tl.map Int.ofNat) (pre.length : Int) acc = some M ∧ M.Pairwise (· < ·) ∧ (∀ x ∈ M, ∃ t ∈ stN ps, x = (t : Int)) ∧ ∀ t ∈ stN ps, (t : Int) ∈ M ↔ ∃ h ∈ H, stL wide ps w v h = [(t : Int)]
  | [], pre, acc, he, _, h1, h2, h3 => by
    rw [List.append_nil] at he
    exact ⟨acc, rfl, h1, by rw [he]; exact h2, by rw [he]; exact h3⟩
  | x :: tl, pre, acc, he, hl, h1, h2, h3 => by
    rw [List.length_cons] at hl
    have hn := hH.n30
    have hi : pre.length < (stN ps).length := by rw [he]; simp
    have hx : (stN ps)[pre.length] = x := by
      simp [he]
    have hsl : (stN ps).length ≤ 30 := by
      have := List.length_filter_le (fun s => decide (ps.getD s 0 = 0)) (List.range ps.length)
      rw [List.length_range] at this
      exact Nat.le_trans this hn
    have hw := without (stN_sorted (ps := ps)) hi
    rw [hx] at hw
    obtain ⟨n, n1, n2, n3⟩ := rserved_all hH ((stN ps).take pre.length ++ (stN ps).drop (pre.length + 1))
    have hmi := must_iff hn hnd hw
    have e1 : sl ((stN ps).map Int.ofNat) 0 (pre.length : Int) = ((stN ps).take pre.length).map Int.ofNat := by rw [take_sl, List.map_take]
    have e2 : sl ((stN ps).map Int.ofNat) ((pre.length : Int) + 1) (((stN ps).map Int.ofNat).length : Int) = ((stN ps).drop (pre.length + 1)).map Int.ofNat := by
      unfold sl
      rw [Int.toNat_natCast, List.take_length, show ((pre.length : Int) + 1).toNat = pre.length + 1 by omega, List.map_drop]
    have hlt : ∀ t ∈ pre, t < x := fun t ht => by
      have := stN_sorted (ps := ps)
      rw [he, List.pairwise_append] at this
      exact this.2.2 t ht x (List.mem_cons_self ..)
    have step : ∀ acc' : List Int, acc'.length + tl.length ≤ 1000 → acc'.Pairwise (· < ·) → (∀ y ∈ acc', ∃ t ∈ pre ++ [x], y = (t : Int)) → (∀ t ∈ pre ++ [x], (t : Int) ∈ acc' ↔ ∃ h ∈ H, stL wide ps w v h = [(t : Int)]) → _ := fun acc' a b c d => rmust_l1 hH hnd tl (pre ++ [x]) acc' (by rw [he, List.append_assoc]; rfl) a b c d
    rw [List.length_append, List.length_singleton] at step
    have hxe : ∀ l : List Nat, (x :: l).map Int.ofNat = (x : Int) :: l.map Int.ofNat := fun l => rfl
    rw [hxe]
    unfold oyezref01_Must_l1
    rw [gd_t ⟨⟨Int.le_refl _, by omega⟩, by rw [List.length_map]; omega⟩, bvE, e1, gd_t ⟨⟨by omega, by rw [List.length_map]; omega⟩, by omega⟩, bvE, e2, ap_t (by simp; omega), List.nil_append, ap_t (by simp; omega), ← List.map_append, n1, b1_some]
    by_cases hc : All (askR wide ps w v H) ((stN ps).take pre.length ++ (stN ps).drop (pre.length + 1))
    · rw [if_neg (by have := n3.2 hc; omega)]
      refine step acc (by omega) h1 (fun y hy => ?_) (fun t ht => ?_)
      · obtain ⟨t, t1, t2⟩ := h2 y hy
        exact ⟨t, List.mem_append.2 (.inl t1), t2⟩
      · rcases List.mem_append.1 ht with ht | ht
        · exact h3 t ht
        · rw [List.mem_singleton] at ht; subst ht
          constructor
          · intro hm
            obtain ⟨u, u1, u2⟩ := h2 _ hm
            have := hlt u u1
            omega
          · intro hm; exact absurd hc (hmi.2 hm)
    · have hlt2 : (n : Int) < (H.length : Int) := by
        have : n ≠ H.length := fun h => hc (n3.1 h)
        omega
      rw [if_pos hlt2, ap_t (by simp; omega)]
      refine step (acc ++ [(x : Int)]) (by simp; omega) ?_ (fun y hy => ?_) (fun t ht => ?_)
      · rw [List.pairwise_append]
        refine ⟨h1, List.pairwise_singleton .., fun a ha b hb => ?_⟩
        rw [List.mem_singleton] at hb
        obtain ⟨u, u1, u2⟩ := h2 a ha
        have := hlt u u1
        omega
      · rcases List.mem_append.1 hy with hy | hy
        · obtain ⟨t, t1, t2⟩ := h2 y hy
          exact ⟨t, List.mem_append.2 (.inl t1), t2⟩
        · rw [List.mem_singleton] at hy
          exact ⟨x, List.mem_append.2 (.inr (List.mem_singleton.2 rfl)), hy⟩
      · rcases List.mem_append.1 ht with ht | ht
        · rw [← h3 t ht, List.mem_append, List.mem_singleton]
          have := hlt t ht
          constructor
          · rintro (h | h)
            · exact h
            · omega
          · exact .inl
        · rw [List.mem_singleton] at ht; subst ht
          exact ⟨fun _ => hmi.1 hc, fun _ => List.mem_append.2 (.inr (List.mem_singleton.2 rfl))⟩
theorem must_same {H : List Int} (hH : Hs wide ps w v H) : ∃ l e, hear_Must wide ps w v H = some (l, e) ∧ oyezref01_Must wide ps w v H = some (l, e) := by
  have hn := hH.n30
  obtain ⟨b, d1, d2⟩ := rdeaf_eq (wide := wide) (w := w) (v := v) (H := H) fun x hx => (hH.is x hx).1
  have e : oyezref01_Must wide ps w v H = if b = true then some ([], 6) else b1 (oyezref01_Must_l1 H (earR wide ps w v) ((stN ps).map Int.ofNat) ((stN ps).map Int.ofNat) 0 []) fun out => some (out, 0) := by
    unfold oyezref01_Must
    rw [rAsked_eq (by omega), hH.ask, b1_some, if_neg (fun h => h rfl), Ears_eq hH.open, b1_some, d1, b1_some, rstreets_eq (by omega), b1_some]
  rcases Must_eq hH with ⟨c1, c2⟩ | ⟨c1, M, c2, ⟨R, r1, r2, r3⟩, c4⟩
  · exact ⟨_, _, c2, by rw [e, if_pos (d2.2 c1)]⟩
  · obtain ⟨M', m1, m2, m3, m4⟩ := rmust_l1 hH c1 (stN ps) [] [] rfl (by
      have := List.length_filter_le (fun s => decide (ps.getD s 0 = 0)) (List.range ps.length)
      rw [List.length_range] at this
      have h2 : (stN ps).length ≤ ps.length := this
      simp; omega) List.Pairwise.nil (fun _ h => by cases h) (fun _ h => by cases h)
    have m1' : oyezref01_Must_l1 H (earR wide ps w v) ((stN ps).map Int.ofNat) ((stN ps).map Int.ofNat) 0 [] = some M' := m1
    have : M = M' := lt_uniq (by rw [r3]; exact cptI_lt r2) m2 fun x => by
      rw [c4]
      constructor
      · rintro ⟨h, hh, he⟩
        have hx : x ∈ stL wide ps w v h := by rw [he]; exact List.mem_singleton.2 rfl
        have hx' := hears_iff.1 hx
        have hxe : ((x.toNat : Nat) : Int) = x := Int.toNat_of_nonneg hx'.1.1
        have := (m4 x.toNat (stN_mem.2 ⟨by omega, hr_street hx'.2⟩)).2 ⟨h, hh, by rw [hxe]; exact he⟩
        rwa [hxe] at this
      · intro hx
        obtain ⟨t, t1, rfl⟩ := m3 x hx
        exact (m4 t t1).1 hx
    refine ⟨M, 0, c2, ?_⟩
    rw [e, if_neg (fun h => by obtain ⟨x, hx, he⟩ := d2.1 h; exact c1 x hx he), m1', b1_some, this]
theorem common_st (hn : ps.length ≤ 30) {a b : Int} : comB (rowH wide ps w v a) (rowH wide ps w v b) = true ↔ ∃ s, s ∈ stL wide ps w v a ∧ s ∈ stL wide ps w v b := by
  constructor
  · intro h
    refine Classical.byContradiction fun hno => ?_
    have : comB (rowH wide ps w v a) (rowH wide ps w v b) = false := comB_false.2 fun s hs hb => hno ⟨(s : Int), ?_⟩
    · rw [h] at this; cases this
    · have x := (rowH_true hn hs).1 hb.1
      have y := (rowH_true hn hs).1 hb.2
      exact ⟨hears_iff.2 ⟨⟨by omega, by omega⟩, by rw [Int.toNat_natCast]; exact x.2⟩, hears_iff.2 ⟨⟨by omega, by omega⟩, by rw [Int.toNat_natCast]; exact y.2⟩⟩
  · rintro ⟨s, h1, h2⟩
    have x := hears_iff.1 h1
    have y := hears_iff.1 h2
    cases hc : comB (rowH wide ps w v a) (rowH wide ps w v b) with
    | true => rfl
    | false => exact absurd ⟨(rowH_true hn (by omega)).2 ⟨by omega, x.2⟩, (rowH_true hn (by omega)).2 ⟨by omega, y.2⟩⟩ (comB_false.1 hc s.toNat (by omega))
theorem rap_l6 {l : List Int} {x y : Int} (hx : 0 ≤ x ∧ x < ps.length) (hy : 0 ≤ y ∧ y < ps.length) (hl : (stL wide ps w v x).length ≤ 1000) {k : Nat} (hk : k < l.length) (hky : l.getD k 0 = y) {rec4 : Int → Option Bool} : ∀ (tl pre : List Int) (fu : Nat), stL wide ps w v x = pre ++ tl → tl.length < fu → oyezref01_apart_l6 (earR wide ps w v) l x (k : Int) rec4 fu (pre.length : Int) = if (tl.any fun s => decide (s ∈ stL wide ps w v y)) = true then some false else rec4 ((k : Int) + 1)
  | _, _, 0, _, h => absurd h (Nat.not_lt_zero _)
  | [], pre, fu + 1, he, _ => by
    rw [List.append_nil] at he
    unfold oyezref01_apart_l6
    rw [earR_get hx, he, if_neg (by omega)]; rfl
  | s :: tl, pre, fu + 1, he, hf => by
    rw [List.length_cons] at hf
    have ih := rap_l6 hx hy hl hk hky (rec4 := rec4) tl (pre ++ [s]) fu (by rw [he, List.append_assoc]; rfl) (by omega)
    rw [List.length_append, List.length_singleton] at ih
    have hlen : pre.length < (stL wide ps w v x).length := by rw [he]; simp
    have hs : (stL wide ps w v x).getD pre.length 0 = s := by rw [he]; exact getA
    unfold oyezref01_apart_l6
    rw [earR_get hx, if_pos (by omega), ixI _ hk, hky, earR_get hy, ixI _ hlen, hs, has_eq, b1_some, List.any_cons]
    by_cases hc : s ∈ stL wide ps w v y
    · rw [decide_eq_true hc, if_pos rfl, Bool.true_or, if_pos rfl]
    · rw [decide_eq_false hc, if_neg (by decide), gd_t (r64_small (by omega)), Bool.false_or]
      exact ih
open Classical in
theorem rap_eq (hn : ps.length ≤ 30) {l : List Int} (hl : ∀ x ∈ l, 0 ≤ x ∧ x < ps.length) (hll : l.length ≤ 1000) : ∃ b, oyezref01_apart (earR wide ps w v) l = some b ∧ (b = true ↔ l.Pairwise fun a c => comB (rowH wide ps w v a) (rowH wide ps w v c) = false) := by
  have stl : ∀ x, (stL wide ps w v x).length ≤ 1000 := fun x => by
    have := lstN_len (fun s => hrB wide ps w v s x.toNat) ps.length
    exact Nat.le_trans this (by omega)
  -- one house against those before it
  have inner : ∀ (fu k i : Nat) (x : Int) (rec2 : Int → Option Bool), k + fu = i → i < l.length → l.getD i 0 = x → oyezref01_apart_l4 (earR wide ps w v) l (i : Int) x rec2 fu (k : Int) = if ∃ j : Nat, k ≤ j ∧ j < i ∧ comB (rowH wide ps w v x) (rowH wide ps w v (l.getD j 0)) = true then some false else rec2 ((i : Int) + 1) := by
    intro fu
    induction fu with
    | zero =>
      intro k i x rec2 h1 h2 h3
      rw [if_neg (by rintro ⟨j, a, b, _⟩; omega)]; rfl
    | succ fu ih =>
      intro k i x rec2 h1 h2 h3
      have gx : ∀ j, j < l.length → 0 ≤ l.getD j 0 ∧ l.getD j 0 < ps.length := fun j hj => by
        rw [List.getD_eq_getElem?_getD, List.getElem?_eq_getElem hj]
        exact hl _ (List.getElem_mem _)
      have h6 := rap_l6 (wide := wide) (w := w) (v := v) (l := l) (x := x) (y := l.getD k 0) (by rw [← h3]; exact gx i h2) (gx k (by omega)) (stl x) (k := k) (by omega) rfl (rec4 := oyezref01_apart_l4 (earR wide ps w v) l (i : Int) x rec2 fu) (stL wide ps w v x) [] FU rfl (by unfold FU; have := stl x; omega)
      have h6' : oyezref01_apart_l6 (earR wide ps w v) l x (k : Int) (oyezref01_apart_l4 (earR wide ps w v) l (i : Int) x rec2 fu) FU 0 = _ := h6
      unfold oyezref01_apart_l4
      rw [h6']
      have hany : ((stL wide ps w v x).any fun s => decide (s ∈ stL wide ps w v (l.getD k 0))) = true ↔ comB (rowH wide ps w v x) (rowH wide ps w v (l.getD k 0)) = true := by
        rw [common_st hn, List.any_eq_true]
        constructor
        · rintro ⟨s, a, b⟩; exact ⟨s, a, of_decide_eq_true b⟩
        · rintro ⟨s, a, b⟩; exact ⟨s, a, decide_eq_true b⟩
      by_cases hc : comB (rowH wide ps w v x) (rowH wide ps w v (l.getD k 0)) = true
      · rw [if_pos (hany.2 hc), if_pos ⟨k, Nat.le_refl _, by omega, hc⟩]
      · rw [if_neg (fun h => hc (hany.1 h)), show (k : Int) + 1 = ((k + 1 : Nat) : Int) from rfl, ih (k + 1) i x rec2 (by omega) h2 h3]
        by_cases h7 : ∃ j : Nat, k + 1 ≤ j ∧ j < i ∧ comB (rowH wide ps w v x) (rowH wide ps w v (l.getD j 0)) = true
        · obtain ⟨j, a, b, c⟩ := h7
          rw [if_pos ⟨j, a, b, c⟩, if_pos ⟨j, by omega, b, c⟩]
        · rw [if_neg h7, if_neg]
          rintro ⟨j, a, b, c⟩
          by_cases hj : j = k
          · subst hj; exact hc c
          · exact h7 ⟨j, by omega, b, c⟩
  have outer : ∀ (tl pre : List Int), l = pre ++ tl → (pre.Pairwise fun a c => comB (rowH wide ps w v a) (rowH wide ps w v c) = false) → ∃ b, oyezref01_apart_l2 (earR wide ps w v) l tl (pre.length : Int) = some b ∧ (b = true ↔ l.Pairwise fun a c => comB (rowH wide ps w v a) (rowH wide ps w v c) = false) := by
    intro tl
    induction tl with
    | nil =>
      intro pre he hp
      rw [List.append_nil] at he
      exact ⟨true, rfl, by rw [he]; exact ⟨fun _ => hp, fun _ => rfl⟩⟩
    | cons x tl ih =>
      intro pre he hp
      have hi : pre.length < l.length := by rw [he]; simp
      have hx : l.getD pre.length 0 = x := by rw [he]; exact getA
      have hin := inner pre.length 0 pre.length x (oyezref01_apart_l2 (earR wide ps w v) l tl) (by omega) hi hx
      have hin' : oyezref01_apart_l4 (earR wide ps w v) l (pre.length : Int) x (oyezref01_apart_l2 (earR wide ps w v) l tl) pre.length 0 = _ := hin
      unfold oyezref01_apart_l2
      rw [gd_t ⟨by decide, r64_small (by omega)⟩, show Int.toNat ((pre.length : Int) - 0) = pre.length by omega, hin']
      have hg : ∀ j, j < pre.length → l.getD j 0 = pre.getD j 0 := fun j hj => by
        rw [he, List.getD_eq_getElem?_getD, List.getD_eq_getElem?_getD, List.getElem?_append_left hj]
      by_cases hc : ∃ j : Nat, 0 ≤ j ∧ j < pre.length ∧ comB (rowH wide ps w v x) (rowH wide ps w v (l.getD j 0)) = true
      · rw [if_pos hc]
        refine ⟨false, rfl, ⟨fun h => (by cases h), fun h => ?_⟩⟩
        obtain ⟨j, _, j2, j3⟩ := hc
        rw [he, List.pairwise_append] at h
        rw [hg j j2] at j3
        have hm : pre.getD j 0 ∈ pre := by
          rw [List.getD_eq_getElem?_getD, List.getElem?_eq_getElem j2]; exact List.getElem_mem _
        have := h.2.2 _ hm x (List.mem_cons_self ..)
        rw [comB_sym, j3] at this
        cases this
      · rw [if_neg hc]
        have := ih (pre ++ [x]) (by rw [he, List.append_assoc]; rfl) (by
          rw [List.pairwise_append]
          refine ⟨hp, List.pairwise_singleton .., fun a ha b hb => ?_⟩
          rw [List.mem_singleton] at hb; subst hb
          obtain ⟨j, hj, rfl⟩ := List.getElem_of_mem ha
          cases hcc : comB (rowH wide ps w v pre[j]) (rowH wide ps w v b) with
          | false => rfl
          | true =>
            refine absurd ⟨j, Nat.zero_le _, hj, ?_⟩ hc
            rw [hg j hj, List.getD_eq_getElem?_getD, List.getElem?_eq_getElem hj, comB_sym]
            exact hcc)
        rw [List.length_append, List.length_singleton] at this
        exact this
  exact outer l [] rfl List.Pairwise.nil
theorem rsort_l1 {H : List Int} : ∀ (r : List Int) (k : Nat), ps.drop k = r → k ≤ ps.length → ps.length ≤ 1000 → oyezref01_Apart_l1 H r (k : Int) (lstN (fun s => decide ((s : Int) ∈ H)) k) = some (lstN (fun s => decide ((s : Int) ∈ H)) ps.length)
  | [], k, hr, hk, _ => by
    have h := congrArg List.length hr
    rw [List.length_drop, List.length_nil] at h
    have : k = ps.length := by omega
    subst this; rfl
  | x :: r, k, hr, _, hn => by
    obtain ⟨hk, hx, hr'⟩ := drop_get hr
    have ih := rsort_l1 (H := H) r (k + 1) hr' (by omega) hn
    have hlen := lstN_len (fun s => decide ((s : Int) ∈ H)) k
    unfold oyezref01_Apart_l1
    rw [show ((k : Int) + 1) = ((k + 1 : Nat) : Int) from rfl, ← ih, lstN_succ, has_eq, b1_some]
    by_cases h : (k : Int) ∈ H
    · rw [if_pos (decide_eq_true h), if_pos (decide_eq_true h), ap_t (by rw [List.length_append, List.length_singleton]; omega)]
    · rw [if_neg (fun h' => h (of_decide_eq_true h')), if_neg (fun h' => h (of_decide_eq_true h')), List.append_nil]
theorem rap_l5 (hn : ps.length ≤ 30) {many : Int} {rec3 : Int → Option (List Int × Int)} {A : List Nat} {P : List Nat → Prop} (hP : ∀ x : List Nat, P x ↔ (x.map Int.ofNat).Pairwise fun a c => comB (rowH wide ps w v a) (rowH wide ps w v c) = false) : ∀ Q : List (List Nat), (∀ x ∈ Q, (∀ s ∈ x, s < ps.length) ∧ x.length ≤ 1000) →
    ((∀ x ∈ Q, ¬ P x) → oyezref01_Apart_l5 (earR wide ps w v) many rec3 (Q.map (·.map Int.ofNat)) = oyezref01_Apart_j4 many rec3) ∧ (P A → (∀ x ∈ Q, P x → x.length = A.length ∧ lexLe A x) → Q.Pairwise lexLe → A ∈ Q → oyezref01_Apart_l5 (earR wide ps w v) many rec3 (Q.map (·.map Int.ofNat)) = some (A.map Int.ofNat, 0))
  | [], _ => ⟨fun _ => rfl, fun _ _ _ h => by cases h⟩
  | x :: Q, hQ => by
    obtain ⟨ih1, ih2⟩ := rap_l5 hn (many := many) (rec3 := rec3) (A := A) hP Q fun y hy => hQ y (List.mem_cons_of_mem _ hy)
    obtain ⟨x1, x2⟩ := hQ x (List.mem_cons_self ..)
    obtain ⟨b, c1, c2⟩ := rap_eq (wide := wide) (w := w) (v := v) hn (l := x.map Int.ofNat) (fun y hy => by
      obtain ⟨s, hs, rfl⟩ := List.mem_map.1 hy
      have := x1 s hs
      exact ⟨by simp only [Int.ofNat_eq_natCast]; omega, by simp only [Int.ofNat_eq_natCast]; omega⟩) (by rw [List.length_map]; exact x2)
    rw [← hP x] at c2
    rw [List.map_cons]
    unfold oyezref01_Apart_l5
    rw [c1, b1_some]
    refine ⟨fun hno => ?_, fun hA hall hp hm => ?_⟩
    · rw [if_neg (fun h => hno x (List.mem_cons_self ..) (c2.1 h))]
      exact ih1 fun y hy => hno y (List.mem_cons_of_mem _ hy)
    · have p := List.pairwise_cons.1 hp
      by_cases hx : P x
      · obtain ⟨q1, q2⟩ := hall x (List.mem_cons_self ..) hx
        have : x = A := by
          rcases List.mem_cons.1 hm with e | hm
          · exact e.symm
          · exact lexLe_anti q1 (p.1 A hm) q2
        rw [if_pos (c2.2 hx), this]
      · have hne : A ≠ x := fun e => hx (e ▸ hA)
        rw [if_neg (fun h => hx (c2.1 h))]
        exact ih2 hA (fun y hy => hall y (List.mem_cons_of_mem _ hy)) p.2 ((List.mem_cons.1 hm).resolve_left hne)
end
end Go.Proofs.YtejkgppikpkkpaaGreat
