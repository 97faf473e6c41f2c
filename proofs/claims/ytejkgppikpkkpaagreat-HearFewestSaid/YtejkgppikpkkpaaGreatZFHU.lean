/- Layer 1: houses that are apart, stands that cannot be left out, as plain facts on lists; in plain Lean. -/
import Derived.Test.YtejkgppikpkkpaaGreatZFHT
namespace Go.Proofs.YtejkgppikpkkpaaGreat
open Go.PL Go.Hear
theorem pw_sym {α : Type} {R : α → α → Prop} (hs : ∀ a b, R a b → R b a) : ∀ {l : List α}, l.Pairwise R → ∀ a ∈ l, ∀ b ∈ l, a ≠ b → R a b
  | [], _, _, h, _, _, _ => by cases h
  | x :: l, hp, a, ha, b, hb, hn => by
    have h1 := List.pairwise_cons.1 hp
    rcases List.mem_cons.1 ha with e1 | ha1
    · rcases List.mem_cons.1 hb with e2 | hb1
      · exact absurd (e1.trans e2.symm) hn
      · rw [e1]; exact h1.1 b hb1
    · rcases List.mem_cons.1 hb with e2 | hb1
      · rw [e2]; exact hs _ _ (h1.1 a ha1)
      · exact pw_sym hs h1.2 a ha1 b hb1 hn
/-- All lists that go on with numbers from one on, in the order in which they are met. -/
def kids (com : Nat → Nat → Bool) : Nat → Nat → List Nat → List (List Nat)
  | 0, _, _ => []
  | d + 1, f, l => (if (l.all fun k => !com k f) = true then (l ++ [f]) :: kids com d (f + 1) (l ++ [f]) else []) ++ kids com d (f + 1) l
/-- A list can be gone on with. -/
def Gd (com : Nat → Nat → Bool) (hi : Nat) : Nat → List Nat → List Nat → Prop
  | _, _, [] => True
  | f, l, x :: t => (f ≤ x ∧ x < hi) ∧ (l.all fun k => !com k x) = true ∧ Gd com hi (x + 1) (l ++ [x]) t
section
variable {com : Nat → Nat → Bool}
theorem Gd.weak {hi f g : Nat} {l t : List Nat} (h : Gd com hi g l t) (hf : f ≤ g) : Gd com hi f l t := by
  cases t with
  | nil => trivial
  | cons x t => exact ⟨⟨by have := h.1; omega, h.1.2⟩, h.2⟩
theorem mem_kids {L : List Nat} : ∀ {d f : Nat} {l : List Nat}, L ∈ kids com d f l ↔ ∃ x t, L = l ++ x :: t ∧ Gd com (f + d) f l (x :: t)
  | 0, f, l => by
    constructor
    · intro h; cases h
    · rintro ⟨x, t, _, h, _⟩; omega
  | d + 1, f, l => by
    have ih1 := mem_kids (L := L) (d := d) (f := f + 1) (l := l ++ [f])
    have ih2 := mem_kids (L := L) (d := d) (f := f + 1) (l := l)
    rw [show f + 1 + d = f + (d + 1) by omega] at ih1 ih2
    unfold kids
    rw [List.mem_append, ih2]
    constructor
    · rintro (h | ⟨x, t, e, h⟩)
      · by_cases hc : (l.all fun k => !com k f) = true
        · rw [if_pos hc, List.mem_cons, ih1] at h
          rcases h with rfl | ⟨x, t, e, h⟩
          · exact ⟨f, [], rfl, ⟨Nat.le_refl _, by omega⟩, hc, trivial⟩
          · exact ⟨f, x :: t, by rw [e, List.append_assoc]; rfl, ⟨Nat.le_refl _, by omega⟩, hc, h⟩
        · rw [if_neg hc] at h; cases h
      · exact ⟨x, t, e, h.weak (by omega)⟩
    · rintro ⟨x, t, e, ⟨h1, h2⟩, h3, h4⟩
      by_cases hx : x = f
      · subst hx
        refine .inl ?_
        rw [if_pos h3, List.mem_cons, ih1]
        cases t with
        | nil => exact .inl e
        | cons y t => exact .inr ⟨y, t, by rw [e, List.append_assoc]; rfl, h4⟩
      · exact .inr ⟨x, t, e, ⟨by omega, h2⟩, h3, h4⟩
/-- The first one of the longest lists. -/
def lng (o : List Nat) : List (List Nat) → List Nat
  | [] => o
  | x :: Q => lng (if o.length < x.length then x else o) Q
theorem lng_app : ∀ (Q Q' : List (List Nat)) (o : List Nat), lng o (Q ++ Q') = lng (lng o Q) Q'
  | [], _, _ => rfl
  | _ :: Q, Q', _ => lng_app Q Q' _
theorem lng_ok : ∀ (Q : List (List Nat)) (o : List Nat), (lng o Q = o ∨ lng o Q ∈ Q) ∧ o.length ≤ (lng o Q).length ∧ ∀ x ∈ Q, x.length ≤ (lng o Q).length
  | [], o => ⟨.inl rfl, Nat.le_refl _, fun _ h => by cases h⟩
  | y :: Q, o => by
    have ih := lng_ok Q (if o.length < y.length then y else o)
    show (lng (if o.length < y.length then y else o) Q = o ∨ _) ∧ _
    have e : lng o (y :: Q) = lng (if o.length < y.length then y else o) Q := rfl
    rw [e]
    by_cases h : o.length < y.length
    · rw [if_pos h] at *
      refine ⟨.inr ?_, by omega, fun x hx => ?_⟩
      · rcases ih.1 with h1 | h1
        · rw [h1]; exact List.mem_cons_self ..
        · exact List.mem_cons_of_mem _ h1
      · rcases List.mem_cons.1 hx with rfl | hx
        · exact ih.2.1
        · exact ih.2.2 x hx
    · rw [if_neg h] at *
      refine ⟨?_, ih.2.1, fun x hx => ?_⟩
      · rcases ih.1 with h1 | h1
        · exact .inl h1
        · exact .inr (List.mem_cons_of_mem _ h1)
      · rcases List.mem_cons.1 hx with rfl | hx
        · omega
        · exact ih.2.2 x hx
theorem gd_iff {hi : Nat} : ∀ {t l : List Nat} {f : Nat}, Gd com hi f l t ↔ (t.Pairwise (· < ·) ∧ ∀ x ∈ t, f ≤ x ∧ x < hi) ∧ (∀ k ∈ l, ∀ x ∈ t, com k x = false) ∧ t.Pairwise fun k x => com k x = false
  | [], l, f => by
    constructor
    · intro _
      exact ⟨⟨List.Pairwise.nil, fun _ h => by cases h⟩, (fun _ _ _ h => by cases h), List.Pairwise.nil⟩
    · intro _; trivial
  | x :: t, l, f => by
    have ih := gd_iff (hi := hi) (t := t) (l := l ++ [x]) (f := x + 1)
    have e : Gd com hi f l (x :: t) ↔ (f ≤ x ∧ x < hi) ∧ (l.all fun k => !com k x) = true ∧ Gd com hi (x + 1) (l ++ [x]) t := Iff.rfl
    rw [e, ih, List.pairwise_cons, List.pairwise_cons]
    have ha : (l.all fun k => !com k x) = true ↔ ∀ k ∈ l, com k x = false := by
      rw [List.all_eq_true]
      constructor
      · intro h k hk
        have := h k hk
        cases hc : com k x with
        | false => rfl
        | true => rw [hc] at this; cases this
      · intro h k hk
        rw [h k hk]; rfl
    rw [ha]
    constructor
    · rintro ⟨h1, h2, ⟨h3, h4⟩, h5, h6⟩
      refine ⟨⟨⟨fun y hy => ?_, h3⟩, fun y hy => ?_⟩, fun k hk y hy => ?_, fun y hy => ?_, h6⟩
      · have := h4 y hy; omega
      · rcases List.mem_cons.1 hy with rfl | hy
        · exact h1
        · have := h4 y hy; omega
      · rcases List.mem_cons.1 hy with rfl | hy
        · exact h2 k hk
        · exact h5 k (List.mem_append.2 (.inl hk)) y hy
      · exact h5 x (List.mem_append.2 (.inr (List.mem_singleton.2 rfl))) y hy
    · rintro ⟨⟨⟨h1, h2⟩, h3⟩, h4, h5, h6⟩
      refine ⟨h3 x (List.mem_cons_self ..), fun k hk => h4 k hk x (List.mem_cons_self ..), ⟨h2, fun y hy => ?_⟩, fun k hk y hy => ?_, h6⟩
      · have := h1 y hy
        have := h3 y (List.mem_cons_of_mem _ hy)
        omega
      · rcases List.mem_append.1 hk with hk | hk
        · exact h4 k hk y (List.mem_cons_of_mem _ hy)
        · rw [List.mem_singleton] at hk; subst hk
          exact h5 y hy
/-- What the search for a longest list finds. -/
def lngK (com : Nat → Nat → Bool) (n : Nat) : List Nat := lng [] (kids com n 0 [])
theorem lngK_ok (com : Nat → Nat → Bool) (n : Nat) : Gd com n 0 [] (lngK com n) ∧ ∀ L, Gd com n 0 [] L → L.length ≤ (lngK com n).length := by
  obtain ⟨h1, _, h3⟩ := lng_ok (kids com n 0 []) []
  refine ⟨?_, fun L hL => ?_⟩
  · rcases h1 with h1 | h1
    · unfold lngK; rw [h1]; trivial
    · obtain ⟨x, t, e, h⟩ := mem_kids.1 h1
      unfold lngK
      rw [e, List.nil_append]
      rwa [Nat.zero_add] at h
  · cases L with
    | nil => exact Nat.zero_le _
    | cons x t => exact h3 _ (mem_kids.2 ⟨x, t, rfl, by rwa [Nat.zero_add]⟩)
end
/-- Do two rows have a stand in common? -/
def comB (x y : List Bool) : Bool := (List.range 30).any fun s => x.getD s false && y.getD s false
theorem comB_sym (x y : List Bool) : comB x y = comB y x := by
  unfold comB
  congr 1
  funext s
  exact Bool.and_comm ..
theorem comB_false {x y : List Bool} : comB x y = false ↔ ∀ s, s < 30 → ¬ (x.getD s false = true ∧ y.getD s false = true) := by
  unfold comB
  rw [List.any_eq_false]
  constructor
  · intro h s hs hc
    exact h s (List.mem_range.2 hs) (by rw [hc.1, hc.2]; rfl)
  · intro h s hs hc
    rw [Bool.and_eq_true] at hc
    exact h s (List.mem_range.1 hs) hc
/-- As many houses as can be that are apart. -/
structure IsAp (f : Int → List Bool) (H A : List Int) : Prop where
  nd : A.Nodup
  sub : ∀ h ∈ A, h ∈ H
  ap : A.Pairwise fun h k => comB (f h) (f k) = false
  max : ∀ S : List Int, S.Nodup → (∀ h ∈ S, h ∈ H) → (S.Pairwise fun h k => comB (f h) (f k) = false) → S.length ≤ A.length
/-- The houses that are told, of some that are sorted. -/
def apV (f : Int → List Bool) (own : List Int) : List Int := (lngK (fun i j => comB (f (own.getD i 0)) (f (own.getD j 0))) own.length).map fun i => own.getD i 0
theorem apV_ok {f : Int → List Bool} {own H : List Int} (hn : own.Nodup) (hm : ∀ h, h ∈ own ↔ h ∈ H) : IsAp f H (apV f own) := by
  obtain ⟨h1, h2⟩ := lngK_ok (fun i j => comB (f (own.getD i 0)) (f (own.getD j 0))) own.length
  obtain ⟨⟨h3, h4⟩, _, h5⟩ := gd_iff.1 h1
  have gE : ∀ i (hi : i < own.length), own.getD i 0 = own[i] := fun i hi => by
    rw [List.getD_eq_getElem?_getD, List.getElem?_eq_getElem hi]; rfl
  have inj : ∀ i j, i < own.length → j < own.length → i ≠ j → own.getD i 0 ≠ own.getD j 0 := fun i j hi hj hne => by
    rw [gE i hi, gE j hj]
    have hp := List.pairwise_iff_getElem.1 hn
    rcases Nat.lt_trichotomy i j with h | h | h
    · exact hp i j hi hj h
    · exact absurd h hne
    · exact fun e => hp j i hj hi h e.symm
  refine ⟨?_, fun h hh => ?_, ?_, fun S hS hsub hp => ?_⟩
  · unfold apV
    rw [List.Nodup, List.pairwise_map]
    refine List.Pairwise.imp_of_mem (fun {a b} ha hb hab => ?_) h3
    exact inj a b (h4 a ha).2 (h4 b hb).2 (by omega)
  · unfold apV at hh
    obtain ⟨i, hi, rfl⟩ := List.mem_map.1 hh
    rw [gE i (h4 i hi).2]
    exact (hm _).1 (List.getElem_mem _)
  · unfold apV
    rw [List.pairwise_map]
    exact h5
  · have sy : ∀ a b : Int, comB (f a) (f b) = false → comB (f b) (f a) = false := fun a b h => by rw [comB_sym]; exact h
    have hL := h2 ((List.range own.length).filter fun i => decide (own.getD i 0 ∈ S)) (gd_iff.2 ⟨⟨List.pairwise_lt_range.filter _, fun x hx => ?_⟩, (fun _ h => by cases h), ?_⟩)
    · refine Nat.le_trans ?_ (Nat.le_trans hL (by unfold apV; rw [List.length_map]; exact Nat.le_refl _))
      have : S.length ≤ (((List.range own.length).filter fun i => decide (own.getD i 0 ∈ S)).map fun i => own.getD i 0).length := by
        refine hS.length_le_of_subset fun h hh => ?_
        obtain ⟨i, hi, e⟩ := List.getElem_of_mem ((hm h).2 (hsub h hh))
        refine List.mem_map.2 ⟨i, List.mem_filter.2 ⟨List.mem_range.2 hi, ?_⟩, by rw [gE i hi]; exact e⟩
        rw [gE i hi, e]; exact decide_eq_true hh
      rwa [List.length_map] at this
    · rw [List.mem_filter, List.mem_range] at hx
      exact ⟨Nat.zero_le _, hx.1⟩
    · refine List.Pairwise.imp_of_mem (fun {a b} ha hb hab => ?_) (List.pairwise_lt_range.filter _)
      rw [List.mem_filter, List.mem_range] at ha hb
      exact pw_sym sy hp _ (of_decide_eq_true ha.2) _ (of_decide_eq_true hb.2) (inj a b ha.1 hb.1 (by omega))
section
variable {f : Int → List Bool} {H A H' A' : List Int}
/-- Houses that are carried over. -/
theorem IsAp.map_le {f' : Int → List Bool} {to : Int → Int} (h : IsAp f H A) (h' : IsAp f' H' A') (hinj : ∀ x ∈ H, ∀ y ∈ H, to x = to y → x = y) (hsub : ∀ x ∈ H, to x ∈ H') (hc : ∀ x ∈ H, ∀ y ∈ H, comB (f x) (f y) = false → comB (f' (to x)) (f' (to y)) = false) : A.length ≤ A'.length := by
  have := h'.max (A.map to) ?_ (fun x hx => ?_) ?_
  · rwa [List.length_map] at this
  · rw [List.Nodup, List.pairwise_map]
    exact List.Pairwise.imp_of_mem (fun {a b} ha hb hab he => hab (hinj a (h.sub a ha) b (h.sub b hb) he)) h.nd
  · obtain ⟨y, hy, rfl⟩ := List.mem_map.1 hx
    exact hsub y (h.sub y hy)
  · rw [List.pairwise_map]
    exact List.Pairwise.imp_of_mem (fun {a b} ha hb hab => hc a (h.sub a ha) b (h.sub b hb) hab) h.ap
end
/-- A few stands, each below thirty, in order. -/
def upL (C : List Nat) : List Nat := (List.range' 0 30).filter fun s => decide (s ∈ C)
theorem upL_mem {C : List Nat} {s : Nat} : s ∈ upL C ↔ s < 30 ∧ s ∈ C := by
  unfold upL
  rw [List.mem_filter, List.mem_range', decide_eq_true_iff]
  constructor
  · rintro ⟨⟨i, h1, rfl⟩, h2⟩; exact ⟨by omega, h2⟩
  · rintro ⟨h1, h2⟩; exact ⟨⟨s, h1, by omega⟩, h2⟩
theorem upL_inc (C : List Nat) : Inc 0 (upL C) := inc_of 30 0 (by omega)
theorem upL_len (C : List Nat) : (upL C).length ≤ C.length := by
  have hnd : (upL C).Nodup := List.Pairwise.filter _ (List.nodup_range' ..)
  exact hnd.length_le_of_subset fun s hs => (upL_mem.1 hs).2
theorem upL_all {R : List (List Bool)} {C : List Nat} (h : ∀ r ∈ R, ∃ s ∈ C, s < 30 ∧ r.getD s false = true) : All R (upL C) := fun r hr => by
  obtain ⟨s, h1, h2, h3⟩ := h r hr
  exact ⟨s, upL_mem.2 ⟨h2, h1⟩, h3⟩
/-- Of stands that serve, as many as there are rows serve. -/
theorem pick {R : List (List Bool)} {C : List Nat} (h : ∀ r ∈ R, ∃ s ∈ C, s < 30 ∧ r.getD s false = true) : ∃ L, Inc 0 L ∧ All R L ∧ L.length ≤ R.length ∧ L.length ≤ C.length ∧ ∀ s ∈ L, s ∈ C := by
  have key : ∀ R : List (List Bool), (∀ r ∈ R, ∃ s ∈ C, s < 30 ∧ r.getD s false = true) → ∃ D : List Nat, D.length = R.length ∧ (∀ s ∈ D, s ∈ C ∧ s < 30) ∧ All R D := by
    intro R
    induction R with
    | nil => intro _; exact ⟨[], rfl, (fun _ h => by cases h), fun _ h => by cases h⟩
    | cons r R ih =>
      intro h
      obtain ⟨D, h1, h2, h3⟩ := ih fun x hx => h x (List.mem_cons_of_mem _ hx)
      obtain ⟨s, h4, h5, h6⟩ := h r (List.mem_cons_self ..)
      refine ⟨s :: D, by rw [List.length_cons, h1, List.length_cons], fun x hx => ?_, fun x hx => ?_⟩
      · rcases List.mem_cons.1 hx with rfl | hx
        · exact ⟨h4, h5⟩
        · exact h2 x hx
      · rcases List.mem_cons.1 hx with rfl | hx
        · exact ⟨s, List.mem_cons_self .., h6⟩
        · obtain ⟨t, ht, h7⟩ := h3 x hx
          exact ⟨t, List.mem_cons_of_mem _ ht, h7⟩
  obtain ⟨D, h1, h2, h3⟩ := key R h
  have hm : ∀ s ∈ upL D, s ∈ C := fun s hs => (h2 s (upL_mem.1 hs).2).1
  refine ⟨upL D, upL_inc D, upL_all fun r hr => ?_, by rw [← h1]; exact upL_len D, ?_, hm⟩
  · obtain ⟨s, hs, h4⟩ := h3 r hr
    exact ⟨s, hs, (h2 s hs).2, h4⟩
  · have hnd : (upL D).Nodup := List.Pairwise.filter _ (List.nodup_range' ..)
    exact hnd.length_le_of_subset hm
theorem IsFew.le {R : List (List Bool)} {L : List Nat} (h : IsFew R L) {C : List Nat} (hC : ∀ r ∈ R, ∃ s ∈ C, s < 30 ∧ r.getD s false = true) : L.length ≤ C.length := by
  have := h.min (upL C) (upL_inc C) (upL_all hC)
  have := upL_len C
  omega
end Go.Proofs.YtejkgppikpkkpaaGreat
