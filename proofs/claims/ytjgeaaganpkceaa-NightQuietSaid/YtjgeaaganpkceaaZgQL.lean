/- Layer 5: who need not have slept (NightQuiet); in plain Lean. -/
import Derived.Test.YtjgeaaganpkceaaZgQI
namespace Go.Proofs.Ytjgeaaganpkceaa.Nt
open Go.PL Rv
theorem app_get {α : Type} (a : List α) (x : α) (tl : List α) (d : α) : (a ++ x :: tl).getD a.length d = x := by
  rw [List.getD_eq_getElem?_getD, List.getElem?_append_right (Nat.le_refl _), Nat.sub_self]; rfl
theorem app_set {α : Type} (a : List α) (x y : α) (tl : List α) : (a ++ x :: tl).set a.length y = a ++ y :: tl := by
  rw [List.set_append_right (h := Nat.le_refl _), Nat.sub_self, List.set_cons_zero]
def uF (m : Int) : Int := if m = 2 then 1 else m
theorem quiet_l3 (U : List (List Int)) (h : Nat) : ∀ (tl pre : List Int), oyezlaw05_NightQuiet_l3 U (h : Int) tl.length (pre.length : Int) (pre.map uF ++ tl) = some (U.set h ((pre ++ tl).map uF))
  | [], pre => by
    rw [List.append_nil, List.append_nil]
    show some (U.set (h : Int).toNat (pre.map uF)) = _
    rw [Int.toNat_natCast]
  | x :: tl, pre => by
    rw [List.length_cons]; unfold oyezlaw05_NightQuiet_l3
    have hl : (pre.map uF).length = pre.length := List.length_map ..
    have ih := quiet_l3 U h tl (pre ++ [x])
    have e1 : (pre.map uF ++ x :: tl).getD pre.length 0 = x := by rw [← hl]; exact app_get ..
    have e2 : (pre.map uF ++ x :: tl).set pre.length 1 = pre.map uF ++ 1 :: tl := by rw [← hl]; exact app_set ..
    have e3 : (pre ++ [x]).map uF ++ tl = pre.map uF ++ uF x :: tl := by simp
    have e4 : ((pre ++ [x]).length : Int) = (pre.length : Int) + 1 := by simp
    have e5 : (pre ++ [x]) ++ tl = pre ++ x :: tl := by simp
    rw [e3, e4, e5] at ih
    rw [ixN 0 _ (by simp), e1]
    by_cases hx : x = 2
    · have e6 : uF x = 1 := if_pos hx
      rw [e6] at ih
      rw [if_pos hx, bvE, Int.toNat_natCast, e2]
      exact ih
    · have e6 : uF x = x := if_neg hx
      rw [e6] at ih
      rw [if_neg hx]
      exact ih
theorem quiet_l2 : ∀ (tl pre : List (List Int)), (∀ r ∈ tl, r.length ≤ 1000) → oyezlaw05_NightQuiet_l2 tl.length (pre.length : Int) (pre.map (List.map uF) ++ tl) = some ((pre ++ tl).map (List.map uF))
  | [], pre, _ => by
    show some (pre.map (List.map uF) ++ []) = _
    rw [List.append_nil, List.append_nil]
  | x :: tl, pre, h => by
    rw [List.length_cons]; unfold oyezlaw05_NightQuiet_l2
    have hx := h x (List.mem_cons_self ..)
    have hl : (pre.map (List.map uF)).length = pre.length := List.length_map ..
    have ih := quiet_l2 tl (pre ++ [x]) (fun r hr => h r (List.mem_cons_of_mem _ hr))
    have e1 : (pre.map (List.map uF) ++ x :: tl).getD pre.length [] = x := by rw [← hl]; exact app_get ..
    have e2 : (pre.map (List.map uF) ++ x :: tl).set pre.length (x.map uF) = pre.map (List.map uF) ++ (x.map uF) :: tl := by rw [← hl]; exact app_set ..
    have e3 : (pre ++ [x]).map (List.map uF) ++ tl = pre.map (List.map uF) ++ (x.map uF) :: tl := by simp
    have e4 : ((pre ++ [x]).length : Int) = (pre.length : Int) + 1 := by simp
    have e5 : (pre ++ [x]) ++ tl = pre ++ x :: tl := by simp
    rw [e3, e4, e5] at ih
    have h3 := quiet_l3 (pre.map (List.map uF) ++ x :: tl) pre.length x []
    rw [List.nil_append] at h3
    have h3' : oyezlaw05_NightQuiet_l3 (pre.map (List.map uF) ++ x :: tl) (pre.length : Int) x.length 0 x = some ((pre.map (List.map uF) ++ x :: tl).set pre.length (x.map uF)) := h3
    rw [ixN [] _ (by simp), e1, gd_t ⟨r64_small (by omega), r64_small (by omega)⟩, toNat_sub00, h3', b1_some, e2]
    exact ih
/-- Nothing is known of a man. -/
def vF (i : Nat) (ms : List Int) : List Int := ms.set i 0
theorem quiet_l4 {ls : List (List Int)} (h1 : 1 ≤ ls.length) : ∀ (tl pre : List (List Int)), (∀ r ∈ tl, r.length = ls.length) → oyezlaw05_NightQuiet_l4 ls tl.length (pre.length : Int) (pre.map (vF (ls.length - 1)) ++ tl) = some ((pre ++ tl).map (vF (ls.length - 1)))
  | [], pre, _ => by
    show some (pre.map (vF (ls.length - 1)) ++ []) = _
    rw [List.append_nil, List.append_nil]
  | x :: tl, pre, h => by
    rw [List.length_cons]; unfold oyezlaw05_NightQuiet_l4
    have hx := h x (List.mem_cons_self ..)
    have hl : (pre.map (vF (ls.length - 1))).length = pre.length := List.length_map ..
    have ih := quiet_l4 h1 tl (pre ++ [x]) (fun r hr => h r (List.mem_cons_of_mem _ hr))
    have e1 : (pre.map (vF (ls.length - 1)) ++ x :: tl).getD pre.length [] = x := by rw [← hl]; exact app_get ..
    have e2 : (pre.map (vF (ls.length - 1)) ++ x :: tl).set pre.length (vF (ls.length - 1) x) = pre.map (vF (ls.length - 1)) ++ (vF (ls.length - 1) x) :: tl := by rw [← hl]; exact app_set ..
    have e3 : (pre ++ [x]).map (vF (ls.length - 1)) ++ tl = pre.map (vF (ls.length - 1)) ++ (vF (ls.length - 1) x) :: tl := by simp
    have e4 : ((pre ++ [x]).length : Int) = (pre.length : Int) + 1 := by simp
    have e5 : (pre ++ [x]) ++ tl = pre ++ x :: tl := by simp
    rw [e3, e4, e5] at ih
    rw [ixN [] _ (by simp), e1, show (ls.length : Int) - 1 = ((ls.length - 1 : Nat) : Int) by omega, ixN 0 _ (by omega), bvE, bvE, Int.toNat_natCast, Int.toNat_natCast, show x.set (ls.length - 1) 0 = vF (ls.length - 1) x from rfl, e2]
    exact ih
section
variable {ls hs : List (List Int)}
theorem cry_all : ∀ (ls : List (List Int)) (k c : Nat), (∀ i, i < k → c.testBit i = true) → (∀ (i : Nat) l, ls[i]? = some l → ∀ m ∈ l, 0 ≤ m ∧ m < ((k + i : Nat) : Int)) → ∀ i, i < k + ls.length → (cryF 0 ls k c).testBit i = true
  | [], k, c, h, _, i, hi => h i hi
  | l :: ls, k, c, h, hl, i, hi => by
    rw [List.length_cons] at hi
    have h1 : (!(0 : Nat).testBit k && (l.isEmpty || has l c)) = true := by
      rw [Nat.zero_testBit]
      cases l with
      | nil => rfl
      | cons m l =>
        obtain ⟨h2, h3⟩ := hl 0 (m :: l) rfl m (List.mem_cons_self ..)
        have h4 := h m.toNat (by omega)
        unfold has
        simp [h4]
    unfold cryF
    rw [if_pos h1]
    refine cry_all ls (k + 1) (c ||| 2 ^ k) (fun j hj => ?_) (fun j l' hj m hm => ?_) i (by omega)
    · rw [or_two]
      by_cases hk : j = k
      · subst hk; simp
      · rw [h j (by omega)]; rfl
    · have := hl (j + 1) l' (by simpa using hj) m hm
      rwa [show k + (j + 1) = k + 1 + j by omega] at this
theorem fitF_of {c : Nat} : ∀ (ms : List Int) (k : Nat), (∀ (i : Nat) m, ms[i]? = some m → markB c m (k + i) = true) → fitF c ms k = true
  | [], _, _ => rfl
  | m :: ms, k, h => by
    unfold fitF
    rw [Bool.and_eq_true]
    refine ⟨h 0 m rfl, fitF_of ms (k + 1) fun i m' hi => ?_⟩
    have := h (i + 1) m' (by simpa using hi)
    rwa [show k + (i + 1) = k + 1 + i by omega] at this
theorem goodU (g : GoodW ls hs) : GoodW ls (hs.map (List.map uF)) := by
  refine ⟨g.n1, g.n6, by rw [List.length_map]; exact g.h1, by rw [List.length_map]; exact g.h8, fun ms h => ?_, fun ms h m hm => ?_, g.lis, g.nd⟩
  · obtain ⟨r, hr, rfl⟩ := List.mem_map.1 h
    rw [List.length_map, g.wid r hr]
  · obtain ⟨r, hr, rfl⟩ := List.mem_map.1 h
    obtain ⟨x, hx, rfl⟩ := List.mem_map.1 hm
    have := g.mks r hr x hx
    unfold uF; split <;> omega
theorem expl_of {f : List Int → Nat} : ∀ {hs : List (List Int)}, (∀ ms ∈ hs, f ms < 2 ^ ls.length ∧ fitB ls ms (f ms) = true) → Expl ls hs (hs.map f)
  | [], _ => trivial
  | ms :: _hs, h => ⟨h ms (List.mem_cons_self ..), expl_of fun m hm => h m (List.mem_cons_of_mem _ hm)⟩
theorem explU (g : GoodW ls hs) : Expl ls (hs.map (List.map uF)) ((hs.map (List.map uF)).map fun _ => 0) := by
  refine expl_of fun ms h => ⟨Nat.pow_pos (by decide), ?_⟩
  obtain ⟨r, hr, rfl⟩ := List.mem_map.1 h
  refine fitF_of _ 0 fun i m hi => ?_
  have hw := (goodU g).wid _ h
  have hil : i < ls.length := by
    rw [← hw]
    exact (List.getElem?_eq_some_iff.1 hi).1
  have hb := cry_all ls 0 0 (fun i h => absurd h (Nat.not_lt_zero _)) (fun i l hl m hm => by rw [Nat.zero_add]; exact g.lis i l hl m hm) i (by omega)
  have hm : ¬ m = 2 := fun h2 => by
    have hmem := List.mem_of_getElem? hi
    obtain ⟨x, hx, he⟩ := List.mem_map.1 hmem
    unfold uF at he
    split at he <;> omega
  rw [Nat.zero_add]
  unfold markB
  have hb2 : (cryS ls 0).testBit i = true := hb
  rw [hb2]
  simp [hm]
theorem naps_zero : ∀ (hs : List (List Int)), napsF 0 (hs.map fun _ => 0) = 0
  | [] => rfl
  | _ :: hs => by
    have h := naps_zero hs
    show fal 0 0 + napsF 0 (hs.map fun _ => 0) = 0
    rw [h]; decide
theorem restU (g : GoodW ls hs) : restV ls allB (hs.map (List.map uF)) 0 = 0 := by
  have h := restV_le ls allB (hs.map (List.map uF)) 0 _ ⟨explU g, fun _ _ => rfl⟩
  rw [naps_zero] at h
  omega
theorem menU (g : GoodW ls hs) : menL ls (hs.map (List.map uF)) = [] := by
  have h : menB ls (hs.map (List.map uF)) [] = true := by
    unfold menB
    have h1 := rest100 (ls := ls) (ok := subB (setL [] 0)) (goodU g)
    have h2 : ¬ restV ls (subB (setL [] 0)) (hs.map (List.map uF)) 0 = 100 := fun h2 => by
      refine h1.1 h2 _ ⟨explU g, fun a ha => ?_⟩
      obtain ⟨_, _, rfl⟩ := List.mem_map.1 ha
      rfl
    rw [decide_eq_false h2]; rfl
  unfold menL firstL combs
  rw [List.find?_cons, h]; rfl
/-- A set without one man. -/
def clr (i a : Nat) : Nat := dif a (2 ^ i)
theorem bit_clr (i a j : Nat) : (clr i a).testBit j = (a.testBit j && !decide (i = j)) := by
  unfold clr; rw [bit_dif, Nat.testBit_two_pow]
theorem has_congr {i : Nat} {l : List Int} {c c' : Nat} (hc : ∀ j, j ≠ i → c.testBit j = c'.testBit j) (hl : ∀ m ∈ l, m.toNat ≠ i) : has l c = has l c' := by
  unfold has
  induction l with
  | nil => rfl
  | cons m l ih =>
    rw [List.any_cons, List.any_cons, hc _ (hl m (List.mem_cons_self ..)), ih fun x hx => hl x (List.mem_cons_of_mem _ hx)]
theorem cryF_clr {i a : Nat} : ∀ (ls : List (List Int)) (k c c' : Nat), (∀ j, j ≠ i → c.testBit j = c'.testBit j) → (∀ l ∈ ls, ∀ m ∈ l, m.toNat ≠ i) → ∀ j, j ≠ i → (cryF a ls k c).testBit j = (cryF (clr i a) ls k c').testBit j
  | [], _, _, _, h, _, j, hj => h j hj
  | l :: ls, k, c, c', h, hl, j, hj => by
    unfold cryF
    refine cryF_clr ls (k + 1) _ _ (fun j hj => ?_) (fun x hx => hl x (List.mem_cons_of_mem _ hx)) j hj
    have e1 : has l c = has l c' := has_congr h (hl l (List.mem_cons_self ..))
    by_cases hk : k = i
    · subst hk
      have e2 : ∀ d : Nat, (d ||| 2 ^ k).testBit j = d.testBit j := fun d => by
        rw [or_two]
        have : ¬ k = j := fun e => hj e.symm
        simp [this]
      have e3 : ∀ (b : Bool) (d : Nat), (if b = true then d ||| 2 ^ k else d).testBit j = d.testBit j := fun b d => by
        cases b with
        | true => rw [if_pos rfl]; exact e2 d
        | false => rw [if_neg (by decide)]
      rw [e3, e3]
      exact h j hj
    · have e2 : (clr i a).testBit k = a.testBit k := by
        rw [bit_clr]
        have : ¬ i = k := fun e => hk e.symm
        simp [this]
      rw [e1, e2]
      split
      · rw [or_two, or_two, h j hj]
      · exact h j hj
theorem fitF_at {c : Nat} : ∀ {ms : List Int} {k i : Nat} {m : Int}, fitF c ms k = true → ms[i]? = some m → markB c m (k + i) = true
  | [], _, _, _, _, h => by simp at h
  | x :: ms, k, i, m, h, hi => by
    unfold fitF at h
    rw [Bool.and_eq_true] at h
    cases i with
    | zero => simp at hi; subst hi; exact h.1
    | succ i =>
      have := fitF_at h.2 (i := i) (by simpa using hi)
      rwa [show k + 1 + i = k + (i + 1) by omega] at this
theorem fitB_clr (g : GoodW ls hs) {ms : List Int} {a : Nat} (_hw : ms.length = ls.length) (hz : ms.getD (ls.length - 1) 0 = 0) (hf : fitB ls ms a = true) : fitB ls ms (clr (ls.length - 1) a) = true := by
  have h1 := g.n1
  refine fitF_of _ 0 fun i m hi => ?_
  have hil := (List.getElem?_eq_some_iff.1 hi).1
  rw [Nat.zero_add]
  by_cases hk : i = ls.length - 1
  · have hm : m = 0 := by
      rw [← hz, List.getD_eq_getElem?_getD, ← hk, hi]; rfl
    rw [hm]; rfl
  · have h2 := fitF_at hf hi
    have h3 : (cryS ls a).testBit i = (cryS ls (clr (ls.length - 1) a)).testBit i := cryF_clr ls 0 0 0 (fun _ _ => rfl) (fun l hl m hm => by
      obtain ⟨j, hj, he⟩ := List.getElem_of_mem hl
      have := g.lis j l (by rw [List.getElem?_eq_getElem hj, he]) m hm
      omega) i hk
    rw [Nat.zero_add] at h2
    unfold markB at h2 ⊢
    rw [← h3]
    exact h2
theorem fil_one {p : Nat → Bool} {L : Nat} : ∀ l : List Nat, l.Nodup → (l.filter p).length = (l.filter fun i => p i && !decide (L = i)).length + if L ∈ l ∧ p L = true then 1 else 0
  | [], _ => by simp
  | x :: l, hn => by
    rw [List.nodup_cons] at hn
    have ih := fil_one (p := p) (L := L) l hn.2
    by_cases hx : L = x
    · subst hx
      rw [if_neg (fun h => hn.1 h.1)] at ih
      cases hp : p L with
      | true => simp [hp] at ih ⊢; omega
      | false => simp [hp] at ih ⊢; omega
    · cases hp : p x with
      | true => simp [hp, hx] at ih ⊢; omega
      | false => simp [hp, hx] at ih ⊢; omega
theorem pop_clr {i : Nat} (hi : i < 6) (x : Nat) : pop x = pop (clr i x) + bitN i x := by
  have h := fil_one (p := fun j => x.testBit j) (L := i) (List.range 6) List.nodup_range
  have e : (List.range 6).filter (fun j => (clr i x).testBit j) = (List.range 6).filter fun j => x.testBit j && !decide (i = j) := List.filter_congr fun j _ => bit_clr i x j
  unfold pop bitN
  rw [e, h]
  simp [hi]
theorem dif_clr (i a b : Nat) : dif (clr i a) (clr i b) = clr i (dif a b) := by
  apply Nat.eq_of_testBit_eq
  intro j
  rw [bit_dif, bit_clr, bit_clr, bit_clr, bit_dif]
  cases a.testBit j <;> cases b.testBit j <;> cases decide (i = j) <;> rfl
theorem naps_clr {i : Nat} (hi : i < 6) : ∀ (s : List Nat) (b : Nat), napsF b s = napsF (clr i b) (s.map (clr i)) + ownF i b s
  | [], _ => rfl
  | a :: s, b => by
    have ih := naps_clr hi s a
    have h := pop_clr hi (dif a b)
    show pop (dif a b) + napsF a s = pop (dif (clr i a) (clr i b)) + napsF (clr i a) (s.map (clr i)) + (bitN i (dif a b) + ownF i a s)
    rw [dif_clr]
    omega
theorem clr_zero (i : Nat) : clr i 0 = 0 := by
  apply Nat.eq_of_testBit_eq
  intro j
  rw [bit_clr, Nat.zero_testBit]; rfl
theorem goodV (g : GoodW ls hs) : GoodW ls (hs.map (vF (ls.length - 1))) := by
  refine ⟨g.n1, g.n6, by rw [List.length_map]; exact g.h1, by rw [List.length_map]; exact g.h8, fun ms h => ?_, fun ms h m hm => ?_, g.lis, g.nd⟩
  · obtain ⟨r, hr, rfl⟩ := List.mem_map.1 h
    unfold vF
    rw [List.length_set, g.wid r hr]
  · obtain ⟨r, hr, rfl⟩ := List.mem_map.1 h
    rcases List.mem_or_eq_of_mem_set hm with h1 | rfl
    · exact g.mks r hr m h1
    · omega
theorem vF_zero (g : GoodW ls hs) : ∀ ms ∈ hs.map (vF (ls.length - 1)), ms.getD (ls.length - 1) 0 = 0 := fun ms h => by
  have h1 := g.n1
  obtain ⟨r, hr, rfl⟩ := List.mem_map.1 h
  exact getD_set_same (by rw [g.wid r hr]; omega)
theorem explV (g : GoodW ls hs) : ∀ {H : List (List Int)} {s : List Nat}, (∀ ms ∈ H, ms ∈ hs) → Expl ls H s → Expl ls (H.map (vF (ls.length - 1))) s
  | [], [], _, _ => trivial
  | [], _ :: _, _, h => h.elim
  | _ :: _, [], _, h => h.elim
  | ms :: H, a :: s, hm, h => by
    refine ⟨⟨h.1.1, fitF_of _ 0 fun i m hi => ?_⟩, explV g (fun x hx => hm x (List.mem_cons_of_mem _ hx)) h.2⟩
    rw [Nat.zero_add]
    unfold vF at hi
    rw [List.getElem?_set] at hi
    split at hi
    · split at hi
      · obtain rfl := Option.some.inj hi
        rfl
      · cases hi
    · have := fitF_at h.1.2 hi
      rwa [Nat.zero_add] at this
theorem expl_clr (g : GoodW ls hs) : ∀ {H : List (List Int)} {s : List Nat}, (∀ ms ∈ H, ms.length = ls.length ∧ ms.getD (ls.length - 1) 0 = 0) → Expl ls H s → Expl ls H (s.map (clr (ls.length - 1)))
  | [], [], _, _ => trivial
  | [], _ :: _, _, h => h.elim
  | _ :: _, [], _, h => h.elim
  | ms :: H, a :: s, hm, h => by
    obtain ⟨h1, h2⟩ := hm ms (List.mem_cons_self ..)
    exact ⟨⟨dif_lt h.1.1, fitB_clr g h1 h2 h.1.2⟩, expl_clr g (fun x hx => hm x (List.mem_cons_of_mem _ hx)) h.2⟩
/-- The last man need not have slept. -/
theorem ownV (g : GoodW ls hs) {s : List Nat} (he : Expl ls (hs.map (vF (ls.length - 1))) s) (hn : napsF 0 s = restV ls allB (hs.map (vF (ls.length - 1))) 0) : ownF (ls.length - 1) 0 s = 0 := by
  have h6 := g.n6; have h1 := g.n1
  have h2 := expl_clr g (fun ms h => ⟨(goodV g).wid ms h, vF_zero g ms h⟩) he
  have h3 := restV_le ls allB _ 0 _ ⟨h2, fun _ _ => rfl⟩
  have h4 := naps_clr (i := ls.length - 1) (by omega) s 0
  rw [clr_zero] at h4
  omega
theorem ownF_le {i : Nat} (hi : i < 6) (s : List Nat) (b : Nat) : ownF i b s ≤ napsF b s := by
  have := naps_clr hi s b
  omega
theorem quiet_l1 {man : Nat} (hm : man < 6) (w : List Nat) (hw : ∀ a ∈ w, a < 64) : ∀ (tl pre : List Nat) (b n : Nat), w = pre ++ tl → (pre = [] ∧ b = 0 ∨ ∃ p, pre = p ++ [b]) → pre.length + tl.length ≤ 1000 → n ≤ pre.length → oyezlaw05_NightQuiet_l1 (man : Int) (natL w) (natL tl) (pre.length : Int) (n : Int) = some ((n + ownF man b tl : Nat) : Int)
  | [], pre, b, n, _, _, _, _ => rfl
  | a :: tl, pre, b, n, he, hp, hl, hn => by
    rw [List.length_cons] at hl
    have ha := hw a (by rw [he]; simp)
    have ih := quiet_l1 hm w hw tl (pre ++ [a]) a
    have e1 : ((pre ++ [a]).length : Int) = (pre.length : Int) + 1 := by simp
    have hcond : (gd (0 ≤ (man : Int) ∧ (man : Int) < 64) <| if band (shr (a : Int) (man : Int)) 1 = 1 then (if (pre.length : Int) = 0 then some true else (gd (R64 ((pre.length : Int) - 1)) <| ix (natL w) ((pre.length : Int) - 1) fun x2 => gd (0 ≤ (man : Int) ∧ (man : Int) < 64) <| some (decide (band (shr x2 (man : Int)) 1 = 0)))) else some false) = some ((dif a b).testBit man) := by
      rw [gd_t ⟨by omega, by omega⟩, bit_dif]
      by_cases hb : a.testBit man = true
      · rw [if_pos ((bit_one (by omega) man).2 hb), hb, Bool.true_and]
        rcases hp with ⟨h1, h2⟩ | ⟨p, h1⟩
        · rw [if_pos (by rw [h1]; rfl), h2, Nat.zero_testBit]; rfl
        · have hlen : pre.length = p.length + 1 := by rw [h1]; simp
          have hg : (natL w).getD p.length 0 = (b : Int) := by
            rw [he, h1, List.append_assoc, ← natL_app]
            have := app_get (natL p) (b : Int) (natL (a :: tl)) 0
            rw [natL_len] at this
            exact this
          have hb64 : b < 64 := hw b (by rw [he, h1]; simp)
          rw [if_neg (by omega), gd_t (r64_small (by omega)), show (pre.length : Int) - 1 = (p.length : Int) by omega, ixN 0 _ (by rw [natL_len, he, List.length_append]; omega), hg, gd_t ⟨by omega, by omega⟩]
          congr 1
          cases hbb : b.testBit man with
          | true => exact decide_eq_false fun q => (bit_zero (by omega) man).1 q hbb
          | false => exact decide_eq_true ((bit_zero (by omega) man).2 (by rw [hbb]; decide))
      · rw [if_neg (fun q => hb ((bit_one (by omega) man).1 q))]
        simp only [Bool.not_eq_true] at hb
        rw [hb]; rfl
    rw [natL_cons]; unfold oyezlaw05_NightQuiet_l1
    rw [hcond, b1_some]
    have e2 : ownF man b (a :: tl) = bitN man (dif a b) + ownF man a tl := rfl
    by_cases hd : (dif a b).testBit man = true
    · have e3 : bitN man (dif a b) = 1 := if_pos hd
      have := ih (n + 1) (by rw [he]; simp) (.inr ⟨pre, rfl⟩) (by simp; omega) (by simp; omega)
      rw [e1] at this
      rw [if_pos hd, gd_t (r64_small (by omega)), show (n : Int) + 1 = ((n + 1 : Nat) : Int) by omega, this, e2, e3, Nat.add_assoc]
    · have e3 : bitN man (dif a b) = 0 := if_neg hd
      have := ih n (by rw [he]; simp) (.inr ⟨pre, rfl⟩) (by simp; omega) (by simp; omega)
      rw [e1] at this
      rw [if_neg hd, this, e2, e3, Nat.zero_add]
end
/-- NightQuiet. -/
theorem quiet_true {numbers : List Int} {which : Int} (h1 : (numbers.length : Int) ≤ 9223372036854775807) (hw : 0 ≤ which ∧ which ≤ 255) : oyezlaw05_NightQuiet numbers which = some true := by
  unfold oyezlaw05_NightQuiet oyezkit_Hang
  obtain ⟨ls, hs, real, a, t, e, g, he, _⟩ := made_ok (metal := numbers) (t := 0) (a := 0) (men := 5) (hours := 6) ⟨by omega, by omega⟩ h1 (by omega) (by omega)
  have hn1 := g.n1; have h6 := g.n6; have h8 := g.h8
  have hp := pow_le64 g.n6
  obtain ⟨s1, f1, f2⟩ := Fewest_ok g he
  obtain ⟨w, rfl⟩ := Int.eq_ofNat_of_zero_le hw.1
  have hmod : Int.tmod (w : Int) ((ls.length : Int) - 1 + 1) = ((w % ls.length : Nat) : Int) := by
    rw [show (ls.length : Int) - 1 + 1 = (ls.length : Int) by omega, Int.tmod_eq_emod_of_nonneg (Int.natCast_nonneg _), ← Int.natCast_emod]
  have hman : w % ls.length < ls.length := Nat.mod_lt _ (by omega)
  generalize w % ls.length = man at hmod hman
  obtain ⟨lo, hi, m1, m2⟩ := Most_ok g he hman
  have hs64 : ∀ a ∈ s1, a < 64 := fun a ha => by have := f2.ex.1.mem a ha; omega
  have hslen := f2.ex.1.len
  have hown := m2.all s1 f2.ex.1 f2.naps
  have hhi : hi ≤ napsF 0 s1 := by
    obtain ⟨s, q1, q2, q3⟩ := m2.hi
    have := ownF_le (i := man) (by omega) s 0
    have := f2.naps
    omega
  have hq1 := quiet_l1 (man := man) (by omega) s1 hs64 s1 [] 0 0 rfl (.inl ⟨rfl, rfl⟩) (by simp; omega) (Nat.le_refl _)
  rw [Nat.zero_add] at hq1
  have hq1' : oyezlaw05_NightQuiet_l1 (man : Int) (natL s1) (natL s1) 0 0 = some (ownF man 0 s1 : Int) := hq1
  have hq2 := quiet_l2 hs [] (fun r hr => by have := g.le50 r hr; omega)
  rw [List.nil_append] at hq2
  have hq2' : oyezlaw05_NightQuiet_l2 hs.length 0 hs = some (hs.map (List.map uF)) := hq2
  have hq4 := quiet_l4 g.n1 hs [] g.wid
  rw [List.nil_append] at hq4
  have hq4' : oyezlaw05_NightQuiet_l4 ls hs.length 0 hs = some (hs.map (vF (ls.length - 1))) := hq4
  obtain ⟨lU, hU⟩ := Fewest_n (goodU g) (explU g)
  rw [restU g] at hU
  have heV := explV g (fun _ h => h) he
  obtain ⟨lo2, hi2, v1, v2⟩ := Most_ok (man := ls.length - 1) (goodV g) heV (by omega)
  have hlo2 : lo2 = 0 := by
    obtain ⟨s, q1, q2, q3⟩ := v2.lo
    rw [← q3, ownV g q1 q2]
  have hhi2 : hi2 = 0 := by
    obtain ⟨s, q1, q2, q3⟩ := v2.hi
    rw [← q3, ownV g q1 q2]
  rw [hlo2, hhi2] at v1
  have v1' : night_Most ls (hs.map (vF (ls.length - 1))) ((ls.length : Int) - 1) = some (0, 0, 0) := by
    rw [show (ls.length : Int) - 1 = ((ls.length - 1 : Nat) : Int) by omega]; exact v1
  have hU' : night_Fewest ls (hs.map (List.map uF)) = some (lU, 0, 0) := hU
  rw [b3_some, e, b5_some, gd_t (r64_small (by omega)), gd_t (by unfold R64; omega), gd_t (r64_small (by omega)), gd_t (by omega), bvE, hmod, f1, b3_some, m1, b3_some, if_neg (fun h => h rfl), if_neg (fun h => h rfl), if_neg (by omega), b1_some, if_neg (by rw [decide_eq_true_iff]; omega), hq1', b1_some, if_neg (by omega), b1_some, if_neg (by rw [decide_eq_true_iff]; omega), Own_ok g, b2_some, b2_some, gd_t ⟨r64_small (by omega), r64_small (by omega)⟩, toNat_sub00, hq2', b1_some, gd_t ⟨r64_small (by omega), r64_small (by omega)⟩, hq4', b1_some, Men_ok (goodU g) (explU g), b2_some, hU', b3_some, v1', b3_some, if_pos rfl, if_pos rfl, if_pos rfl, menU g, if_pos (show ((natL []).length : Int) = 0 from rfl), if_pos (show (0 : Int) = 0 ∧ (0 : Int) = 0 from ⟨rfl, rfl⟩), awake_true]
  rfl
end Go.Proofs.Ytjgeaaganpkceaa.Nt
