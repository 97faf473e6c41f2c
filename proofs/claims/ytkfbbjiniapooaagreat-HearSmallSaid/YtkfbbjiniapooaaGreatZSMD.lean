/- Layer 1: houses that are apart, stands that cannot be left out, as plain facts on lists; in plain Lean. -/
import Derived.Test.YtkfbbjiniapooaaGreatZSMC
import Derived.Test.YtkfbbjiniapooaaGreatZSMB
namespace Go.Proofs.YtkfbbjiniapooaaGreat
open Go.PL Go.Hear
theorem Ul {α : Type} {R : α → α → Prop} (hs : ∀ a b, R a b → R b a) : ∀ {l : List α}, l.Pairwise R → ∀ a ∈ l, ∀ b ∈ l, a ≠ b → R a b
  | [], _, _, h, _, _, _ => by cases h
  | x :: l, hp, a, ha, b, hb, hn => by
    have h1 := List.pairwise_cons.1 hp
    rcases List.mem_cons.1 ha with e1 | ab
    · rcases List.mem_cons.1 hb with e2 | aa
      · exact absurd (e1.trans e2.symm) hn
      · rw [e1]; exact h1.1 b aa
    · rcases List.mem_cons.1 hb with e2 | aa
      · rw [e2]; exact hs _ _ (h1.1 a ab)
      · exact Ul hs h1.2 a ab b aa hn
def kids (com : Nat → Nat → Bool) : Nat → Nat → List Nat → List (List Nat)
  | 0, _, _ => []
  | d + 1, f, l => (if (l.all fun k => !com k f) = true then (l ++ [f]) :: kids com d (f + 1) (l ++ [f]) else []) ++ kids com d (f + 1) l
def Gd (com : Nat → Nat → Bool) (hi : Nat) : Nat → List Nat → List Nat → Prop
  | _, _, [] => True
  | f, l, x :: t => (f ≤ x ∧ x < hi) ∧ (l.all fun k => !com k x) = true ∧ Gd com hi (x + 1) (l ++ [x]) t
section
variable {com : Nat → Nat → Bool}
theorem Gd.TV {hi f g : Nat} {l t : List Nat} (h : Gd com hi g l t) (hf : f ≤ g) : Gd com hi f l t := by
  cases t with
  | nil => trivial
  | cons x t => exact ⟨⟨by have := h.1; omega, h.1.2⟩, h.2⟩
theorem Jd {L : List Nat} : ∀ {d f : Nat} {l : List Nat}, L ∈ kids com d f l ↔ ∃ x t, L = l ++ x :: t ∧ Gd com (f + d) f l (x :: t)
  | 0, f, l => by
    constructor
    · intro h; cases h
    · rintro ⟨x, t, _, h, _⟩; omega
  | d + 1, f, l => by
    have aa := Jd (L := L) (d := d) (f := f + 1) (l := l ++ [f])
    have ab := Jd (L := L) (d := d) (f := f + 1) (l := l)
    rw [show f + 1 + d = f + (d + 1) by omega] at aa ab
    unfold kids
    rw [List.mem_append, ab]
    constructor
    · rintro (h | ⟨x, t, e, h⟩)
      · by_cases hc : (l.all fun k => !com k f) = true
        · rw [if_pos hc, List.mem_cons, aa] at h
          rcases h with rfl | ⟨x, t, e, h⟩
          · exact ⟨f, [], rfl, ⟨Nat.le_refl _, by omega⟩, hc, trivial⟩
          · exact ⟨f, x :: t, by rw [e, List.append_assoc]; rfl, ⟨Nat.le_refl _, by omega⟩, hc, h⟩
        · rw [if_neg hc] at h; cases h
      · exact ⟨x, t, e, h.TV (by omega)⟩
    · rintro ⟨x, t, e, ⟨h1, h2⟩, h3, h4⟩
      by_cases hx : x = f
      · subst hx
        refine .inl ?_
        rw [if_pos h3, List.mem_cons, aa]
        cases t with
        | nil => exact .inl e
        | cons y t => exact .inr ⟨y, t, by rw [e, List.append_assoc]; rfl, h4⟩
      · exact .inr ⟨x, t, e, ⟨by omega, h2⟩, h3, h4⟩
def Og (o : List Nat) : List (List Nat) → List Nat
  | [] => o
  | x :: Q => Og (if o.length < x.length then x else o) Q
theorem S4 : ∀ (Q Q' : List (List Nat)) (o : List Nat), Og o (Q ++ Q') = Og (Og o Q) Q'
  | [], _, _ => rfl
  | _ :: Q, Q', _ => S4 Q Q' _
theorem QH : ∀ (Q : List (List Nat)) (o : List Nat), (Og o Q = o ∨ Og o Q ∈ Q) ∧ o.length ≤ (Og o Q).length ∧ ∀ x ∈ Q, x.length ≤ (Og o Q).length
  | [], o => ⟨.inl rfl, Nat.le_refl _, fun _ h => by cases h⟩
  | y :: Q, o => by
    have ih := QH Q (if o.length < y.length then y else o)
    show (Og (if o.length < y.length then y else o) Q = o ∨ _) ∧ _
    have e : Og o (y :: Q) = Og (if o.length < y.length then y else o) Q := rfl
    rw [e]
    by_cases h : o.length < y.length
    · rw [if_pos h] at *
      refine ⟨.inr ?_, by omega, fun x hx => ?_⟩
      · rcases ih.1 with h1 | h1
        · rw [h1]; exact List.mem_cons_self ..
        · exact List.mem_cons_of_mem _ h1
      · rcases List.mem_cons.1 hx with rfl | hx
        · exact ih.2.1
        · exact ih.2.2 x hx
    · rw [if_neg h] at *
      refine ⟨?_, ih.2.1, fun x hx => ?_⟩
      · rcases ih.1 with h1 | h1
        · exact .inl h1
        · exact .inr (List.mem_cons_of_mem _ h1)
      · rcases List.mem_cons.1 hx with rfl | hx
        · omega
        · exact ih.2.2 x hx
theorem NI {hi : Nat} : ∀ {t l : List Nat} {f : Nat}, Gd com hi f l t ↔ (t.Pairwise (· < ·) ∧ ∀ x ∈ t, f ≤ x ∧ x < hi) ∧ (∀ k ∈ l, ∀ x ∈ t, com k x = false) ∧ t.Pairwise fun k x => com k x = false
  | [], l, f => by
    constructor
    · intro _
      exact ⟨⟨List.Pairwise.nil, fun _ h => by cases h⟩, (fun _ _ _ h => by cases h), List.Pairwise.nil⟩
    · intro _; trivial
  | x :: t, l, f => by
    have ih := NI (hi := hi) (t := t) (l := l ++ [x]) (f := x + 1)
    have e : Gd com hi f l (x :: t) ↔ (f ≤ x ∧ x < hi) ∧ (l.all fun k => !com k x) = true ∧ Gd com hi (x + 1) (l ++ [x]) t := Iff.rfl
    rw [e, ih, List.pairwise_cons, List.pairwise_cons]
    have ha : (l.all fun k => !com k x) = true ↔ ∀ k ∈ l, com k x = false := by
      rw [List.all_eq_true]
      constructor
      · intro h k hk
        have := h k hk
        cases hc : com k x with
        | false => rfl
        | true => rw [hc] at this; cases this
      · intro h k hk
        rw [h k hk]; rfl
    rw [ha]
    constructor
    · rintro ⟨h1, h2, ⟨h3, h4⟩, h5, h6⟩
      refine ⟨⟨⟨fun y hy => ?_, h3⟩, fun y hy => ?_⟩, fun k hk y hy => ?_, fun y hy => ?_, h6⟩
      · have := h4 y hy; omega
      · rcases List.mem_cons.1 hy with rfl | hy
        · exact h1
        · have := h4 y hy; omega
      · rcases List.mem_cons.1 hy with rfl | hy
        · exact h2 k hk
        · exact h5 k (List.mem_append.2 (.inl hk)) y hy
      · exact h5 x (List.mem_append.2 (.inr (List.mem_singleton.2 rfl))) y hy
    · rintro ⟨⟨⟨h1, h2⟩, h3⟩, h4, h5, h6⟩
      refine ⟨h3 x (List.mem_cons_self ..), fun k hk => h4 k hk x (List.mem_cons_self ..), ⟨h2, fun y hy => ?_⟩, fun k hk y hy => ?_, h6⟩
      · have := h1 y hy
        have := h3 y (List.mem_cons_of_mem _ hy)
        omega
      · rcases List.mem_append.1 hk with hk | hk
        · exact h4 k hk y (List.mem_cons_of_mem _ hy)
        · rw [List.mem_singleton] at hk; subst hk
          exact h5 y hy
def Md (com : Nat → Nat → Bool) (n : Nat) : List Nat := Og [] (kids com n 0 [])
theorem Qj (com : Nat → Nat → Bool) (n : Nat) : Gd com n 0 [] (Md com n) ∧ ∀ L, Gd com n 0 [] L → L.length ≤ (Md com n).length := by
  obtain ⟨h1, _, h3⟩ := QH (kids com n 0 []) []
  refine ⟨?_, fun L hL => ?_⟩
  · rcases h1 with h1 | h1
    · unfold Md; rw [h1]; trivial
    · obtain ⟨x, t, e, h⟩ := Jd.1 h1
      unfold Md
      rw [e, List.nil_append]
      rwa [Nat.zero_add] at h
  · cases L with
    | nil => exact Nat.zero_le _
    | cons x t => exact h3 _ (Jd.2 ⟨x, t, rfl, by rwa [Nat.zero_add]⟩)
end
def Fw (x y : List Bool) : Bool := (List.range 30).any fun s => x.getD s false && y.getD s false
theorem OE (x y : List Bool) : Fw x y = Fw y x := by
  unfold Fw
  congr 1
  funext s
  exact Bool.and_comm ..
theorem KY {x y : List Bool} : Fw x y = false ↔ ∀ s, s < 30 → ¬ (x.getD s false = true ∧ y.getD s false = true) := by
  unfold Fw
  rw [List.any_eq_false]
  constructor
  · intro h s hs hc
    exact h s (List.mem_range.2 hs) (by rw [hc.1, hc.2]; rfl)
  · intro h s hs hc
    rw [Bool.and_eq_true] at hc
    exact h s (List.mem_range.1 hs) hc
structure Sw (f : Int → List Bool) (H A : List Int) : Prop where
  nd : A.Nodup
  sub : ∀ h ∈ A, h ∈ H
  ap : A.Pairwise fun h k => Fw (f h) (f k) = false
  max : ∀ S : List Int, S.Nodup → (∀ h ∈ S, h ∈ H) → (S.Pairwise fun h k => Fw (f h) (f k) = false) → S.length ≤ A.length
def Wa (f : Int → List Bool) (own : List Int) : List Int := (Md (fun i j => Fw (f (own.getD i 0)) (f (own.getD j 0))) own.length).map fun i => own.getD i 0
theorem WZ {f : Int → List Bool} {own H : List Int} (hn : own.Nodup) (hm : ∀ h, h ∈ own ↔ h ∈ H) : Sw f H (Wa f own) := by
  obtain ⟨h1, h2⟩ := Qj (fun i j => Fw (f (own.getD i 0)) (f (own.getD j 0))) own.length
  obtain ⟨⟨h3, h4⟩, _, h5⟩ := NI.1 h1
  have gE : ∀ i (hi : i < own.length), own.getD i 0 = own[i] := fun i hi => by
    rw [List.getD_eq_getElem?_getD, List.getElem?_eq_getElem hi]; rfl
  have inj : ∀ i j, i < own.length → j < own.length → i ≠ j → own.getD i 0 ≠ own.getD j 0 := fun i j hi hj ab => by
    rw [gE i hi, gE j hj]
    have hp := List.pairwise_iff_getElem.1 hn
    rcases Nat.lt_trichotomy i j with h | h | h
    · exact hp i j hi hj h
    · exact absurd h ab
    · exact fun e => hp j i hj hi h e.symm
  refine ⟨?_, fun h hh => ?_, ?_, fun S hS aa hp => ?_⟩
  · unfold Wa
    rw [List.Nodup, List.pairwise_map]
    refine List.Pairwise.imp_of_mem (fun {a b} ha hb ad => ?_) h3
    exact inj a b (h4 a ha).2 (h4 b hb).2 (by omega)
  · unfold Wa at hh
    obtain ⟨i, hi, rfl⟩ := List.mem_map.1 hh
    rw [gE i (h4 i hi).2]
    exact (hm _).1 (List.getElem_mem _)
  · unfold Wa
    rw [List.pairwise_map]
    exact h5
  · have sy : ∀ a b : Int, Fw (f a) (f b) = false → Fw (f b) (f a) = false := fun a b h => by rw [OE]; exact h
    have hL := h2 ((List.range own.length).filter fun i => decide (own.getD i 0 ∈ S)) (NI.2 ⟨⟨List.pairwise_lt_range.filter _, fun x hx => ?_⟩, (fun _ h => by cases h), ?_⟩)
    · refine Nat.le_trans ?_ (Nat.le_trans hL (by unfold Wa; rw [List.length_map]; exact Nat.le_refl _))
      have : S.length ≤ (((List.range own.length).filter fun i => decide (own.getD i 0 ∈ S)).map fun i => own.getD i 0).length := by
        refine hS.length_le_of_subset fun h hh => ?_
        obtain ⟨i, hi, e⟩ := List.getElem_of_mem ((hm h).2 (aa h hh))
        refine List.mem_map.2 ⟨i, List.mem_filter.2 ⟨List.mem_range.2 hi, ?_⟩, by rw [gE i hi]; exact e⟩
        rw [gE i hi, e]; exact decide_eq_true hh
      rwa [List.length_map] at this
    · rw [List.mem_filter, List.mem_range] at hx
      exact ⟨Nat.zero_le _, hx.1⟩
    · refine List.Pairwise.imp_of_mem (fun {a b} ha hb ad => ?_) (List.pairwise_lt_range.filter _)
      rw [List.mem_filter, List.mem_range] at ha hb
      exact Ul sy hp _ (of_decide_eq_true ha.2) _ (of_decide_eq_true hb.2) (inj a b ha.1 hb.1 (by omega))
section
variable {f : Int → List Bool} {H A H' A' : List Int}
theorem Sw.map_le {f' : Int → List Bool} {to : Int → Int} (h : Sw f H A) (h' : Sw f' H' A') (aa : ∀ x ∈ H, ∀ y ∈ H, to x = to y → x = y) (ab : ∀ x ∈ H, to x ∈ H') (hc : ∀ x ∈ H, ∀ y ∈ H, Fw (f x) (f y) = false → Fw (f' (to x)) (f' (to y)) = false) : A.length ≤ A'.length := by
  have := h'.max (A.map to) ?_ (fun x hx => ?_) ?_
  · rwa [List.length_map] at this
  · rw [List.Nodup, List.pairwise_map]
    exact List.Pairwise.imp_of_mem (fun {a b} ha hb ad he => ad (aa a (h.sub a ha) b (h.sub b hb) he)) h.nd
  · obtain ⟨y, hy, rfl⟩ := List.mem_map.1 hx
    exact ab y (h.sub y hy)
  · rw [List.pairwise_map]
    exact List.Pairwise.imp_of_mem (fun {a b} ha hb ad => hc a (h.sub a ha) b (h.sub b hb) ad) h.ap
end
def Vj (C : List Nat) : List Nat := (List.range' 0 30).filter fun s => decide (s ∈ C)
theorem Qv {C : List Nat} {s : Nat} : s ∈ Vj C ↔ s < 30 ∧ s ∈ C := by
  unfold Vj
  rw [List.mem_filter, List.mem_range', decide_eq_true_iff]
  constructor
  · rintro ⟨⟨i, h1, rfl⟩, h2⟩; exact ⟨by omega, h2⟩
  · rintro ⟨h1, h2⟩; exact ⟨⟨s, h1, by omega⟩, h2⟩
theorem SX (C : List Nat) : Mb 0 (Vj C) := Se 30 0 (by omega)
theorem S7 (C : List Nat) : (Vj C).length ≤ C.length := by
  have aa : (Vj C).Nodup := List.Pairwise.filter _ (List.nodup_range' ..)
  exact aa.length_le_of_subset fun s hs => (Qv.1 hs).2
theorem SL {R : List (List Bool)} {C : List Nat} (h : ∀ r ∈ R, ∃ s ∈ C, s < 30 ∧ r.getD s false = true) : PS R (Vj C) := fun r hr => by
  obtain ⟨s, h1, h2, h3⟩ := h r hr
  exact ⟨s, Qv.2 ⟨h2, h1⟩, h3⟩
theorem pick {R : List (List Bool)} {C : List Nat} (h : ∀ r ∈ R, ∃ s ∈ C, s < 30 ∧ r.getD s false = true) : ∃ L, Mb 0 L ∧ PS R L ∧ L.length ≤ R.length ∧ L.length ≤ C.length ∧ ∀ s ∈ L, s ∈ C := by
  have key : ∀ R : List (List Bool), (∀ r ∈ R, ∃ s ∈ C, s < 30 ∧ r.getD s false = true) → ∃ D : List Nat, D.length = R.length ∧ (∀ s ∈ D, s ∈ C ∧ s < 30) ∧ PS R D := by
    intro R
    induction R with
    | nil => intro _; exact ⟨[], rfl, (fun _ h => by cases h), fun _ h => by cases h⟩
    | cons r R ih =>
      intro h
      obtain ⟨D, h1, h2, h3⟩ := ih fun x hx => h x (List.mem_cons_of_mem _ hx)
      obtain ⟨s, h4, h5, h6⟩ := h r (List.mem_cons_self ..)
      refine ⟨s :: D, by rw [List.length_cons, h1, List.length_cons], fun x hx => ?_, fun x hx => ?_⟩
      · rcases List.mem_cons.1 hx with rfl | hx
        · exact ⟨h4, h5⟩
        · exact h2 x hx
      · rcases List.mem_cons.1 hx with rfl | hx
        · exact ⟨s, List.mem_cons_self .., h6⟩
        · obtain ⟨t, ht, h7⟩ := h3 x hx
          exact ⟨t, List.mem_cons_of_mem _ ht, h7⟩
  obtain ⟨D, h1, h2, h3⟩ := key R h
  have hm : ∀ s ∈ Vj D, s ∈ C := fun s hs => (h2 s (Qv.1 hs).2).1
  refine ⟨Vj D, SX D, SL fun r hr => ?_, by rw [← h1]; exact S7 D, ?_, hm⟩
  · obtain ⟨s, hs, h4⟩ := h3 r hr
    exact ⟨s, hs, (h2 s hs).2, h4⟩
  · have aa : (Vj D).Nodup := List.Pairwise.filter _ (List.nodup_range' ..)
    exact aa.length_le_of_subset hm
theorem Ng.le {R : List (List Bool)} {L : List Nat} (h : Ng R L) {C : List Nat} (hC : ∀ r ∈ R, ∃ s ∈ C, s < 30 ∧ r.getD s false = true) : L.length ≤ C.length := by
  have := h.min (Vj C) (SX C) (SL hC)
  have := S7 C
  omega
end Go.Proofs.YtkfbbjiniapooaaGreat
namespace Go.Proofs.YtkfbbjiniapooaaGreat
open Go.PL Go.Hear
def HD (p : Int) : List Int → List Int
  | [] => []
  | y :: l => if y = p then HD p l else y :: HD y l
def Tl : List Int → List Int
  | [] => []
  | x :: l => x :: HD x l
theorem ND {z : Int} : ∀ {p : Int} {l : List Int}, (z ∈ HD p l ∨ z = p) ↔ (z ∈ l ∨ z = p)
  | p, [] => by simp [HD]
  | p, y :: l => by
    unfold HD
    by_cases h : y = p
    · rw [if_pos h, ND, List.mem_cons]
      constructor
      · rintro (h1 | h1)
        · exact .inl (.inr h1)
        · exact .inr h1
      · rintro ((h1 | h1) | h1)
        · exact .inr (h1.trans h)
        · exact .inl h1
        · exact .inr h1
    · have ih := ND (z := z) (p := y) (l := l)
      rw [if_neg h, List.mem_cons, List.mem_cons]
      constructor
      · rintro ((h1 | h1) | h1)
        · exact .inl (.inl h1)
        · rcases ih.1 (.inl h1) with h2 | h2
          · exact .inl (.inr h2)
          · exact .inl (.inl h2)
        · exact .inr h1
      · rintro ((h1 | h1) | h1)
        · exact .inl (.inl h1)
        · rcases ih.2 (.inl h1) with h2 | h2
          · exact .inl (.inr h2)
          · exact .inl (.inl h2)
        · exact .inr h1
theorem Ud {z : Int} : ∀ {l : List Int}, z ∈ Tl l ↔ z ∈ l
  | [] => Iff.rfl
  | x :: l => by
    have h := ND (z := z) (p := x) (l := l)
    unfold Tl
    rw [List.mem_cons, List.mem_cons, or_comm, h, or_comm]
theorem Ob {o : List Int} {k : Nat} (hk : k < o.length) (hn : o.length ≤ 100000) : ∀ (rest : List Int) (fu j : Nat) (s A : List Int), rest.length < fu → o.drop (k + j) = rest → 1 ≤ j → s.length = o.length → s.take A.length = A → s.drop A.length = o.drop A.length → A.length + 1 ≤ k + j → k ≤ A.length →
    ∃ s' B, BA (k : Int) fu s (A.length : Int) (j : Int) = some (s', (B.length : Int)) ∧ B = A ++ HD (o.getD (k + j - 1) 0) rest ∧ s'.length = o.length ∧ s'.take B.length = B ∧ B.length ≤ o.length
  | _, 0, _, _, _, h, _, _, _, _, _, _, _ => absurd h (Nat.not_lt_zero _)
  | [], fu + 1, j, s, A, _, hd, hj, hs, h1, h2, h3, h4 => by
    have hle : o.length ≤ k + j := List.drop_eq_nil_iff.1 hd
    have hA : A.length ≤ s.length := by
      have := congrArg List.length h1
      rw [List.length_take] at this; omega
    refine ⟨s, A, ?_, by simp [HD], hs, h1, by omega⟩
    unfold BA
    rw [Int.toNat_natCast, if_neg (by omega)]
  | x :: rest, fu + 1, j, s, A, hf, hd, hj, hs, h1, h2, h3, h4 => by
    rw [List.length_cons] at hf
    have aa : k + j < o.length := by
      rcases Nat.lt_or_ge (k + j) o.length with h' | h'
      · exact h'
      · rw [List.drop_eq_nil_of_le h'] at hd; cases hd
    have hg : o.getD (k + j) 0 = x := by
      rw [List.drop_eq_getElem_cons aa] at hd
      rw [List.getD_eq_getElem?_getD, List.getElem?_eq_getElem aa]
      exact (List.cons.inj hd).1
    have ab : o.drop (k + (j + 1)) = rest := by
      rw [List.drop_eq_getElem_cons aa] at hd
      rw [show k + (j + 1) = k + j + 1 by omega]
      exact (List.cons.inj hd).2
    have hA : A.length ≤ s.length := by
      have := congrArg List.length h1
      rw [List.length_take] at this; omega
    have rd : ∀ i, A.length ≤ i → s.getD i 0 = o.getD i 0 := fun i hi => by
      have e1 : s.getD i 0 = (s.drop A.length).getD (i - A.length) 0 := by
        rw [List.getD_eq_getElem?_getD, List.getD_eq_getElem?_getD, List.getElem?_drop, show A.length + (i - A.length) = i by omega]
      have e2 : o.getD i 0 = (o.drop A.length).getD (i - A.length) 0 := by
        rw [List.getD_eq_getElem?_getD, List.getD_eq_getElem?_getD, List.getElem?_drop, show A.length + (i - A.length) = i by omega]
      rw [e1, e2, h2]
    have ad : ∀ i, A.length ≤ k + i → (s.drop k).getD i 0 = o.getD (k + i) 0 := fun i hi => by
      rw [List.getD_eq_getElem?_getD, List.getElem?_drop, ← List.getD_eq_getElem?_getD, rd _ hi]
    have hlen : (s.drop k).length = o.length - k := by rw [List.length_drop, hs]
    have ih := Ob hk hn rest fu (j + 1)
    unfold BA
    rw [Int.toNat_natCast, if_pos (by rw [hs]; omega), Sv _ (by omega), BF (AT (by omega)), show (j : Int) - 1 = ((j - 1 : Nat) : Int) by omega, Sv _ (by omega), ad j (by omega), ad (j - 1) (by omega), hg, show k + (j - 1) = k + j - 1 by omega]
    by_cases hx : x = o.getD (k + j - 1) 0
    · have e : HD (o.getD (k + j - 1) 0) (x :: rest) = HD (o.getD (k + (j + 1) - 1) 0) rest := by
        rw [show k + (j + 1) - 1 = k + j by omega, hg]
        show (if x = _ then _ else _) = _
        rw [if_pos hx, ← hx]
      obtain ⟨s', B, q1, q2, q3⟩ := ih s A (by omega) ab (by omega) hs h1 h2 (by omega) h4
      rw [if_neg (fun h => h hx), BF (AT (by omega)), show (j : Int) + 1 = ((j + 1 : Nat) : Int) by omega]
      exact ⟨s', B, q1, by rw [q2, e], q3⟩
    · have e : HD (o.getD (k + j - 1) 0) (x :: rest) = x :: HD (o.getD (k + (j + 1) - 1) 0) rest := by
        rw [show k + (j + 1) - 1 = k + j by omega, hg]
        show (if x = _ then _ else _) = _
        rw [if_neg hx]
      have ae : A.length < s.length := by omega
      obtain ⟨s', B, q1, q2, q3⟩ := ih (s.set A.length x) (A ++ [x]) (by omega) ab (by omega) (by rw [List.length_set]; exact hs) (by
        rw [List.length_append, List.length_singleton, List.take_add_one, List.getElem?_set_self ae, List.take_set_of_le (Nat.le_refl _), h1]; rfl) (by
        rw [List.length_append, List.length_singleton, List.drop_set_of_lt (by omega)]
        have := congrArg (List.drop 1) h2
        rw [List.drop_drop, List.drop_drop] at this
        exact this) (by simp; omega) (by simp; omega)
      rw [List.length_append, List.length_singleton] at q1
      rw [if_pos hx, Sv _ ae, Nx, Int.toNat_natCast, BF (AT (by omega)), BF (AT (by omega)), show (j : Int) + 1 = ((j + 1 : Nat) : Int) by omega, show (A.length : Int) + 1 = ((A.length + 1 : Nat) : Int) by omega]
      exact ⟨s', B, q1, by rw [q2, e, List.append_assoc]; rfl, q3⟩
theorem N1 {o : List Int} (hn : o.length ≤ 100000) : ∀ (fu k : Nat), 1 ≤ k → k + fu = o.length → BG o fu (k : Int) = some (o.take k ++ HD (o.getD (k - 1) 0) (o.drop k))
  | 0, k, _, hf => by
    unfold BG Eg
    rw [List.drop_eq_nil_of_le (by omega), List.take_of_length_le (by omega)]
    simp [HD]
  | fu + 1, k, h1, hf => by
    have hk : k < o.length := by omega
    have hd : o.drop k = o.getD k 0 :: o.drop (k + 1) := by
      rw [List.drop_eq_getElem_cons hk, List.getD_eq_getElem?_getD, List.getElem?_eq_getElem hk]; rfl
    unfold BG
    rw [Sv _ hk, BF (AT (by omega)), show (k : Int) - 1 = ((k - 1 : Nat) : Int) by omega, Sv _ (by omega)]
    by_cases hx : o.getD k 0 = o.getD (k - 1) 0
    · obtain ⟨s', B, q1, q2, q3, q4, q5⟩ := Ob hk hn (o.drop (k + 1)) FU 1 o (o.take k) (by rw [List.length_drop]; unfold FU; omega) rfl (Nat.le_refl _) rfl (by rw [List.length_take, Nat.min_eq_left (by omega)]) (by rw [List.length_take, Nat.min_eq_left (by omega)]) (by rw [List.length_take]; omega) (by rw [List.length_take]; omega)
      rw [List.length_take, Nat.min_eq_left (by omega)] at q1
      have aa : BA (k : Int) FU o (k : Int) 1 = some (s', (B.length : Int)) := q1
      have e : HD (o.getD (k - 1) 0) (o.drop k) = HD (o.getD (k + 1 - 1) 0) (o.drop (k + 1)) := by
        rw [hd, show k + 1 - 1 = k by omega]
        show (if _ = _ then _ else _) = _
        rw [if_pos hx, hx]
      rw [if_pos hx, BF ⟨by omega, by omega⟩, aa, Dt, BF ⟨by omega, by omega⟩, Nx, Int.toNat_natCast, BF ⟨⟨Int.le_refl _, by omega⟩, by rw [List.length_append, List.length_take, List.length_replicate]; omega⟩, Nx, q4]
      have ab : sl (B ++ List.replicate (s'.length - B.length) 0) 0 (B.length : Int) = B := by
        unfold sl
        rw [Int.toNat_natCast, List.take_left]; rfl
      rw [ab, q2, e]
    · have e : o.take k ++ HD (o.getD (k - 1) 0) (o.drop k) = o.take (k + 1) ++ HD (o.getD (k + 1 - 1) 0) (o.drop (k + 1)) := by
        rw [hd, show k + 1 - 1 = k by omega, List.take_add_one, List.getElem?_eq_getElem hk]
        have e2 : HD (o.getD (k - 1) 0) (o.getD k 0 :: o.drop (k + 1)) = o.getD k 0 :: HD (o.getD k 0) (o.drop (k + 1)) := by
          show (if _ = _ then _ else _) = _
          rw [if_neg hx]
        rw [e2, List.append_assoc]
        have e3 : o.getD k 0 = o[k] := by rw [List.getD_eq_getElem?_getD, List.getElem?_eq_getElem hk]; rfl
        rw [e3]; rfl
      rw [if_neg hx]
      unfold Eh
      rw [show (((k : Nat) : Int) + 1) = ((k + 1 : Nat) : Int) by omega, e]
      exact N1 hn fu (k + 1) (by omega) (by omega)
theorem RB {o : List Int} (hn : o.length ≤ 100000) : D2 o = some (Tl o) := by
  unfold D2
  by_cases h : (o.length : Int) < 2
  · rw [if_pos h]
    match o, h with
    | [], _ => rfl
    | [x], _ => rfl
    | _ :: _ :: _, h => simp at h; omega
  · rw [if_neg h, BF ⟨AT (by omega), AT (by omega)⟩, show Int.toNat ((o.length : Int) - 1) = o.length - 1 by omega, show (1 : Int) = ((1 : Nat) : Int) from rfl, N1 hn (o.length - 1) 1 (Nat.le_refl _) (by omega)]
    match o, h with
    | x :: l, _ => rfl
    | [], h => simp at h
theorem Uq : ((List.range 256).all fun k : Nat => (HK ((k : Int) % 18446744073709551616)).isSome) = true := by decide +kernel
theorem VE {k : Nat} (h : k < 256) : ∃ n, HK ((k : Int) % 18446744073709551616) = some n := by
  have := (List.all_eq_true.1 Uq) k (List.mem_range.2 h)
  exact Option.isSome_iff_exists.1 this
theorem SG {s : List Int} (hl : s.length ≤ 12) : ∃ R, Eb s = some R ∧ R.Perm s ∧ R.Pairwise (· ≤ ·) := by
  obtain ⟨n, hn⟩ := VE (k := s.length) (by omega)
  obtain ⟨R, h1, h2⟩ := Wv hl 18446744073709551615 n
  refine ⟨R, ?_, h2⟩
  have aa : BV FU s 0 (s.length : Int) n = some R := h1
  unfold Eb
  rw [hn, Ax, aa, Ax]
theorem N8 : ∀ {l l' : List Int}, l.Perm l' → l.Pairwise (· ≤ ·) → l'.Pairwise (· ≤ ·) → l = l'
  | [], l', h, _, _ => (List.nil_perm.1 h).symm
  | x :: l, [], h, _, _ => by have := h.length_eq; simp at this
  | x :: l, y :: l', h, h1, h2 => by
    have p1 := List.pairwise_cons.1 h1
    have p2 := List.pairwise_cons.1 h2
    have aa : x = y := by
      have m1 : x ∈ y :: l' := h.subset (List.mem_cons_self ..)
      have m2 : y ∈ x :: l := h.symm.subset (List.mem_cons_self ..)
      rcases List.mem_cons.1 m1 with e | m1
      · exact e
      · rcases List.mem_cons.1 m2 with e | m2
        · exact e.symm
        · have := p1.1 y m2
          have := p2.1 x m1
          omega
    subst aa
    rw [N8 (List.Perm.cons_inv h) p1.2 p2.2]
theorem values_eq : ∀ l : List Int, Dy l = some l := fun l => by
  have key : ∀ l : List Int, B6 l = some l := fun l => by
    induction l with
    | nil => rfl
    | cons x l ih => unfold B6; rw [ih]; rfl
  unfold Dy ED
  rw [key, Ax]
theorem P7 : ∀ (l acc : List Int), acc.length + l.length ≤ 100000 → BI l acc = some (acc ++ l)
  | [], acc, _ => by simp [BI]
  | x :: l, acc, h => by
    rw [List.length_cons] at h
    unfold BI
    rw [Lp (by simp; omega), P7 l (acc ++ [x]) (by simp; omega)]
    simp
theorem OI {s : List Int} (hl : s.length ≤ 12) : ∃ R, (b1 (Dy s) fun y => FM y) = some R ∧ R.Perm s ∧ R.Pairwise (· ≤ ·) := by
  obtain ⟨R, h1, h2⟩ := SG hl
  refine ⟨R, ?_, h2⟩
  unfold FM GJ Ev
  rw [values_eq, Ax, P7 s [] (by simp; omega), Ax, Ax, List.nil_append, Ax, h1, Ax]
theorem P2 {l : List Int} (h : l.length ≤ 100000) : Dd l = some l := by
  unfold Dd Oe
  rw [Lp (by simp; omega), List.nil_append]
  by_cases h1 : l = []
  · rw [if_pos h1, h1]; rfl
  · rw [if_neg h1]
theorem S9 {f : Int → Option Bool} {p : Int → Bool} : ∀ (l : List Int) (k : Int), (∀ x ∈ l, f x = some (p x)) → 0 ≤ k → ∃ n, BZ f l k = some n ∧ (0 ≤ n ↔ l.any p = true)
  | [], k, _, _ => ⟨-1, rfl, by simp⟩
  | x :: l, k, h, hk => by
    obtain ⟨n, h1, h2⟩ := S9 l (k + 1) (fun y hy => h y (List.mem_cons_of_mem _ hy)) (by omega)
    unfold BZ
    rw [h x (List.mem_cons_self ..), Ax]
    cases hp : p x with
    | true => exact ⟨k, by rw [if_pos rfl], by simp [hp, hk]⟩
    | false => exact ⟨n, by rw [if_neg (by decide)]; exact h1, by rw [h2]; simp [hp]⟩
theorem Ui {f : Int → Option Bool} {p : Int → Bool} {l : List Int} (h : ∀ x ∈ l, f x = some (p x)) : CY l f = some (l.any p) := by
  obtain ⟨n, h1, h2⟩ := S9 l 0 h (Int.le_refl _)
  unfold CY Et
  rw [h1, Ax]
  congr 1
  rw [Bool.eq_iff_iff, decide_eq_true_iff]
  exact h2
theorem Ty {f : Int → Option Bool} {p : Int → Bool} {l : List Int} (h : ∀ x ∈ l, f x = some (p x)) : Gx l f = some (l.all p) := by
  unfold Gx
  rw [Ui (p := fun x => !p x) (fun x hx => by unfold Gp; rw [h x hx, Ax]), Ax]
  congr 1
  rw [List.all_eq_not_any_not]
end Go.Proofs.YtkfbbjiniapooaaGreat
namespace Go.Proofs.YtkfbbjiniapooaaGreat
open Go.PL Go.Hear
section
variable {wide : Int} {ps : List Int} {w v : Int}
theorem SB : ∀ {r pre : List Int}, SM ps pre r = 0 ↔ (∀ x ∈ r, PZ ps x 1 = 0) ∧ (∀ x ∈ r, x ∉ pre) ∧ r.Nodup
  | [], pre => by
    constructor
    · intro _; exact ⟨(fun _ h => by cases h), (fun _ h => by cases h), List.Pairwise.nil⟩
    · intro _; rfl
  | y :: r, pre => by
    have ih := SB (r := r) (pre := pre ++ [y])
    unfold SM
    by_cases h1 : PZ ps y 1 = 0
    · rw [if_neg (not_not_intro h1)]
      by_cases h2 : y ∈ pre
      · rw [if_pos h2]
        constructor
        · intro h; cases h
        · rintro ⟨_, h, _⟩; exact absurd h2 (h y (List.mem_cons_self ..))
      · rw [if_neg h2, ih, List.nodup_cons]
        constructor
        · rintro ⟨a, b, c⟩
          refine ⟨fun x hx => ?_, fun x hx => ?_, fun hy => ?_, c⟩
          · rcases List.mem_cons.1 hx with rfl | hx
            · exact h1
            · exact a x hx
          · rcases List.mem_cons.1 hx with rfl | hx
            · exact h2
            · exact fun hp => b x hx (List.mem_append.2 (.inl hp))
          · exact b y hy (List.mem_append.2 (.inr (List.mem_singleton.2 rfl)))
        · rintro ⟨a, b, c, d⟩
          refine ⟨fun x hx => a x (List.mem_cons_of_mem _ hx), fun x hx hp => ?_, d⟩
          rcases List.mem_append.1 hp with hp | hp
          · exact b x (List.mem_cons_of_mem _ hx) hp
          · rw [List.mem_singleton] at hp; subst hp; exact c hx
    · rw [if_pos h1]
      constructor
      · intro h; exact absurd h h1
      · rintro ⟨h, _, _⟩; exact absurd (h y (List.mem_cons_self ..)) h1
theorem LR {H : List Int} : Kz wide ps w v H = 0 ↔ KX wide ps w v = 0 ∧ (∀ x ∈ H, PZ ps x 1 = 0) ∧ H.Nodup := by
  unfold Kz
  by_cases h : KX wide ps w v = 0
  · rw [if_neg (not_not_intro h), SB]
    constructor
    · rintro ⟨a, _, b⟩; exact ⟨h, a, b⟩
    · rintro ⟨_, a, b⟩; exact ⟨a, (fun _ _ h => by cases h), b⟩
  · rw [if_pos h]
    constructor
    · intro h'; exact absurd h' h
    · rintro ⟨h', _⟩; exact absurd h' h
theorem TD {H H' : List Int} (h : H'.Perm H) (ha : Kz wide ps w v H = 0) : Kz wide ps w v H' = 0 := by
  obtain ⟨a, b, c⟩ := LR.1 ha
  exact LR.2 ⟨a, fun x hx => b x (h.subset hx), h.nodup_iff.2 c⟩
def C2 (wide : Int) (ps : List Int) (w v : Int) (h : Int) : List Bool := Is wide ps w v ps.length h.toNat
theorem Ot (H : List Int) : EP wide ps w v H = H.map (C2 wide ps w v) := rfl
theorem PY {x y : List Bool} (hx : x.length = 30) (hy : y.length = 30) : ∀ (fu k : Nat), k + fu = 30 → CW x y fu (k : Int) = some ((List.range' k fu).any fun s => x.getD s false && y.getD s false)
  | 0, k, _ => rfl
  | fu + 1, k, hk => by
    have ih := PY hx hy fu (k + 1) (by omega)
    unfold CW
    have e1 : ∀ (z : List Bool) (f : Bool → Option Bool), z.length = 30 → ix z (k : Int) f = f (z.getD k false) := fun z f hz => Na (by omega) (by rw [Int.toNat_natCast]; exact (by rw [List.getD_eq_getElem?_getD, List.getElem?_eq_getElem (by omega)]; rfl))
    rw [e1 x _ hx, List.range'_succ, List.any_cons]
    cases h1 : x.getD k false with
    | false =>
      rw [if_neg (by decide), Ax, if_neg (by decide), show (k : Int) + 1 = ((k + 1 : Nat) : Int) from rfl, ih, Bool.false_and, Bool.false_or]
    | true =>
      rw [if_pos rfl, e1 y _ hy, Ax]
      cases h2 : y.getD k false with
      | true => rw [if_pos rfl]; rfl
      | false => rw [if_neg (by decide), show (k : Int) + 1 = ((k + 1 : Nat) : Int) from rfl, ih]; rfl
theorem TT {x y : List Bool} (hx : x.length = 30) (hy : y.length = 30) : Gl x y = some (Fw x y) := by
  have h := PY hx hy 30 0 rfl
  unfold Gl
  rw [BF ⟨by decide, by decide⟩]
  have h' : CW x y (Int.toNat (30 - 0)) 0 = _ := h
  rw [h']
  unfold Fw
  rw [List.range_eq_range']
section
variable {R : List (List Bool)} {own : List Int} {count : Int → Option Int}
def Of (R : List (List Bool)) (i j : Nat) : Bool := Fw (R.getD i []) (R.getD j [])
theorem US (hR : ∀ r ∈ R, r.length = 30) {l : List Nat} {f : Nat} (hl : ∀ x ∈ l, x < R.length) (hf : f < R.length) : Gx (l.map Int.ofNat) (fun aa : Int => Gy aa R count (f : Int)) = some (l.all fun k => !Of R k f) := by
  have hg : ∀ i, i < R.length → (R.getD i []).length = 30 := fun i hi => by
    rw [List.getD_eq_getElem?_getD, List.getElem?_eq_getElem hi]; exact hR _ (List.getElem_mem _)
  rw [Ty (p := fun x => !Of R x.toNat f) (fun x hx => ?_), List.all_map]
  · rfl
  · obtain ⟨k, hk, rfl⟩ := List.mem_map.1 hx
    unfold Gy
    show ix R (k : Int) _ = _
    rw [Wm _ (hl k hk), Wm _ hf, TT (hg k (hl k hk)) (hg f hf), Ax]
    rfl
theorem Pq (hR : ∀ r ∈ R, r.length = 30) (hn : R.length ≤ 100) (ho : own.length = R.length) {rec_ : List Int → Int → List Int → List Int → List (List Bool) → (Int → Option Int) → Option (List Int)} {n : Nat}
    (aa : ∀ (d f : Nat) (l out : List Nat), f + d = R.length → d < n → (∀ x ∈ l, x < R.length) → l.length ≤ f → rec_ (l.map Int.ofNat) (f : Int) (out.map Int.ofNat) own R count = some ((Og out (l :: kids (Of R) d f l)).map Int.ofNat)) :
    ∀ (d f : Nat) (l out : List Nat) (fu : Nat), f + d = R.length → d ≤ n → d < fu → (∀ x ∈ l, x < R.length) → l.length ≤ f → DR (l.map Int.ofNat) own R count rec_ fu (out.map Int.ofNat) (f : Int) = some ((Og out (kids (Of R) d f l)).map Int.ofNat)
  | _, _, _, _, 0, _, _, h, _, _ => absurd h (Nat.not_lt_zero _)
  | 0, f, l, out, fu + 1, hf, _, _, _, _ => by
    unfold DR
    rw [if_neg (by omega)]; rfl
  | d + 1, f, l, out, fu + 1, hf, ad, ae, hl, af => by
    have ab : f < R.length := by omega
    have ih := fun out => Pq hR hn ho aa d (f + 1) l out fu (by omega) (by omega) (by omega) hl (by omega)
    unfold DR
    rw [if_pos (by omega), US hR hl ab, Ax]
    unfold kids
    rw [S4]
    have ek : (f : Int) + 1 = ((f + 1 : Nat) : Int) := rfl
    by_cases hc : (l.all fun k => !Of R k f) = true
    · have h1 := aa d (f + 1) (l ++ [f]) out (by omega) (by omega) (fun x hx => by
        rcases List.mem_append.1 hx with hx | hx
        · exact hl x hx
        · rw [List.mem_singleton] at hx; omega) (by simp; omega)
      have e1 : (l ++ [f]).map Int.ofNat = l.map Int.ofNat ++ [(f : Int)] := by rw [List.map_append]; rfl
      rw [e1] at h1
      rw [hc, if_pos rfl, BF (AT (by omega)), P2 (by rw [List.length_map]; omega), Ax, Lp (by simp; omega), ek, h1, Ax, Ax, BF (AT (by omega)), if_pos rfl, ih]
    · rw [if_neg hc, if_neg hc, Ax, BF (AT (by omega)), ek, ih]; rfl
theorem P9 (hR : ∀ r ∈ R, r.length = 30) (hn : R.length ≤ 100) (ho : own.length = R.length) : ∀ (n d f : Nat) (l out : List Nat), f + d = R.length → d < n → (∀ x ∈ l, x < R.length) → l.length ≤ f → Gc n (l.map Int.ofNat) (f : Int) (out.map Int.ofNat) own R count = some ((Og out (l :: kids (Of R) d f l)).map Int.ofNat)
  | 0, _, _, _, _, _, h, _, _ => absurd h (Nat.not_lt_zero _)
  | n + 1, d, f, l, out, hf, hd, hl, aa => by
    have ih := fun d f l out h1 h2 h3 h4 => P9 hR hn ho n d f l out h1 h2 h3 h4
    unfold Gc I8
    have e : (if ((out.map Int.ofNat).length : Int) < ((l.map Int.ofNat).length : Int) then (b1 (Dd (l.map Int.ofNat)) fun l2 => some l2) else some (out.map Int.ofNat)) = some ((if out.length < l.length then l else out).map Int.ofNat) := by
      rw [P2 (by rw [List.length_map]; omega), Ax, List.length_map, List.length_map]
      by_cases h : out.length < l.length
      · rw [if_pos (by omega), if_pos h]
      · rw [if_neg (by omega), if_neg h]
    rw [e, Ax]
    exact Pq hR hn ho ih d f l _ FU hf (by omega) (by unfold FU; omega) hl aa
theorem RY : ∀ (L pre : List Nat) (A : List Int), (∀ x ∈ L, x < own.length) → A = pre.map (fun i => own.getD i 0) ++ L.map Int.ofNat → E8 own L.length (pre.length : Int) A = some ((pre ++ L).map fun i => own.getD i 0)
  | [], pre, A, _, h => by
    show some A = _
    rw [h]; simp
  | x :: L, pre, A, hL, h => by
    have ih := RY L (pre ++ [x]) ((pre ++ [x]).map (fun i => own.getD i 0) ++ L.map Int.ofNat) (fun y hy => hL y (List.mem_cons_of_mem _ hy)) rfl
    rw [List.length_append, List.length_singleton, List.append_assoc] at ih
    have hx := hL x (List.mem_cons_self ..)
    have e1 : A = (pre.map fun i => own.getD i 0) ++ (x : Int) :: L.map Int.ofNat := h
    have hg : A.getD pre.length 0 = (x : Int) := by
      rw [e1]
      have := Vc (a := pre.map fun i => own.getD i 0) (x := (x : Int)) (tl := L.map Int.ofNat)
      rwa [List.length_map] at this
    have hs : A.set pre.length (own.getD x 0) = (pre ++ [x]).map (fun i => own.getD i 0) ++ L.map Int.ofNat := by
      rw [e1]
      have := WB (a := pre.map fun i => own.getD i 0) (x := (x : Int)) (y := own.getD x 0) (tl := L.map Int.ofNat)
      rw [List.length_map] at this
      rw [this]; simp
    rw [List.length_cons]
    unfold E8
    rw [Sv _ (by rw [e1]; simp), hg, Sv _ hx, Nx, Int.toNat_natCast, hs]
    exact ih
end
theorem T9 (hn : ps.length ≤ 1000) {H : List Int} (hH : H.length ≤ 12) (ha : Kz wide ps w v H = 0) : ∃ own, own.Perm H ∧ own.Pairwise (· ≤ ·) ∧ Hj wide ps w v H = some (Wa (C2 wide ps w v) own, 0) ∧ Sw (C2 wide ps w v) H (Wa (C2 wide ps w v) own) := by
  obtain ⟨own, h1, h2, h3⟩ := OI hH
  have hlen := h2.length_eq
  have ai := TD h2 ha
  obtain ⟨_, _, aj⟩ := LR.1 ai
  refine ⟨own, h2, h3, ?_, WZ aj fun h => h2.mem_iff⟩
  have aa := S3 (wide := wide) (ps := ps) (w := w) (v := v) own
  have ak := Ly wide ps w v own
  have key := P9 (R := EP wide ps w v own) (own := own) (count := fun ab : Int => Dw ab) aa (by omega) ak.symm FU own.length 0 [] [] (by omega) (by unfold FU; omega) (fun _ h => by cases h) (Nat.le_refl _)
  have ec : kids (Of (EP wide ps w v own)) own.length 0 [] = kids (fun i j => Fw (C2 wide ps w v (own.getD i 0)) (C2 wide ps w v (own.getD j 0))) own.length 0 [] := by
    have gen : ∀ d f l, f + d = own.length → (∀ x ∈ l, x < own.length) → kids (Of (EP wide ps w v own)) d f l = kids (fun i j => Fw (C2 wide ps w v (own.getD i 0)) (C2 wide ps w v (own.getD j 0))) d f l := by
      intro d
      induction d with
      | zero => intro _ _ _ _; rfl
      | succ d ih =>
        intro f l hf hl
        unfold kids
        have e0 : ∀ i, i < own.length → (EP wide ps w v own).getD i [] = C2 wide ps w v (own.getD i 0) := fun i hi => by
          rw [Ot, List.getD_eq_getElem?_getD, List.getElem?_map, List.getElem?_eq_getElem hi, List.getD_eq_getElem?_getD, List.getElem?_eq_getElem hi]; rfl
        have e1 : (l.all fun k => !Of (EP wide ps w v own) k f) = (l.all fun k => !Fw (C2 wide ps w v (own.getD k 0)) (C2 wide ps w v (own.getD f 0))) := by
          rw [Bool.eq_iff_iff, List.all_eq_true, List.all_eq_true]
          unfold Of
          constructor
          · intro h k hk; have := h k hk; rwa [e0 k (hl k hk), e0 f (by omega)] at this
          · intro h k hk; have := h k hk; rwa [e0 k (hl k hk), e0 f (by omega)]
        rw [e1, ih (f + 1) l (by omega) hl, ih (f + 1) (l ++ [f]) (by omega) (fun x hx => by
          rcases List.mem_append.1 hx with hx | hx
          · exact hl x hx
          · rw [List.mem_singleton] at hx; omega)]
    exact gen own.length 0 [] (by omega) (fun _ h => by cases h)
  have ad : Gc FU [] 0 [] own (EP wide ps w v own) (fun ab : Int => Dw ab) = some ((Md (fun i j => Fw (C2 wide ps w v (own.getD i 0)) (C2 wide ps w v (own.getD j 0))) own.length).map Int.ofNat) := by
    have : Og [] ([] :: kids (Of (EP wide ps w v own)) own.length 0 []) = Og [] (kids (Of (EP wide ps w v own)) own.length 0 []) := rfl
    rw [this, ec] at key
    exact key
  obtain ⟨ao, _⟩ := Qj (fun i j => Fw (C2 wide ps w v (own.getD i 0)) (C2 wide ps w v (own.getD j 0))) own.length
  have ae := (NI.1 ao).1
  have aq : (Md (fun i j => Fw (C2 wide ps w v (own.getD i 0)) (C2 wide ps w v (own.getD j 0))) own.length).length ≤ own.length := by
    have af : (Md (fun i j => Fw (C2 wide ps w v (own.getD i 0)) (C2 wide ps w v (own.getD j 0))) own.length).Nodup := List.Pairwise.imp (fun h => Nat.ne_of_lt h) ae.1
    have := List.Nodup.length_le_of_subset (l₂ := List.range own.length) af fun x hx => List.mem_range.2 (ae.2 x hx).2
    rwa [List.length_range] at this
  have fin := RY (own := own) (Md (fun i j => Fw (C2 wide ps w v (own.getD i 0)) (C2 wide ps w v (own.getD j 0))) own.length) [] _ (fun x hx => (ae.2 x hx).2) rfl
  have ah : E8 own (Md (fun i j => Fw (C2 wide ps w v (own.getD i 0)) (C2 wide ps w v (own.getD j 0))) own.length).length 0 ((Md (fun i j => Fw (C2 wide ps w v (own.getD i 0)) (C2 wide ps w v (own.getD j 0))) own.length).map Int.ofNat) = _ := fin
  unfold Hj
  rw [values_eq, Ax]
  rw [values_eq, Ax] at h1
  rw [h1, Ax, JT hn H (by omega), ha, Le, if_neg (fun h => h rfl), JT hn own (by omega), ai, Le, BF (decide_eq_true rfl), if_pos rfl, ad, Ax, BF ⟨by decide, AT (by rw [List.length_map]; omega)⟩, List.length_map, show ∀ n : Nat, Int.toNat ((n : Int) - 0) = n from fun n => by omega, ah, Ax]
  rfl
end
end Go.Proofs.YtkfbbjiniapooaaGreat
namespace Go.Proofs.YtkfbbjiniapooaaGreat
open Go.PL Go.Hear
theorem Rm {kind : Int} : ∀ (l : List Int) (k : Int), (Kf kind l k).Pairwise (· < ·)
  | [], _ => List.Pairwise.nil
  | y :: l, k => by
    have ih := Rm (kind := kind) l (k + 1)
    unfold Kf
    by_cases hy : y = kind
    · rw [if_pos hy, List.pairwise_cons]
      refine ⟨fun x hx => ?_, ih⟩
      have := (NR l (k + 1) x).1 hx
      omega
    · rw [if_neg hy]; exact ih
theorem RL {kind : Int} (l : List Int) (k : Int) : (Kf kind l k).Nodup := (Rm l k).imp fun h => by omega
theorem Oa : ∀ (l : List Int) (k : Int), (Kf 1 l k).length = Ms l
  | [], _ => rfl
  | y :: l, k => by
    have ih := Oa l (k + 1)
    unfold Kf
    unfold Ms at ih ⊢
    by_cases hy : y = 1
    · rw [if_pos hy, List.length_cons, ih, List.filter_cons_of_pos (by simpa using hy)]; rfl
    · rw [if_neg hy, ih, List.filter_cons_of_neg (by simpa using hy)]
theorem V5 {kind : Int} {ps : List Int} {x : Int} : x ∈ Kf kind ps 0 ↔ (0 ≤ x ∧ x < ps.length) ∧ ps.getD x.toNat 0 = kind := by
  rw [NR, Int.sub_zero, Int.zero_add]
  constructor
  · rintro ⟨a, b, c⟩; exact ⟨⟨a, b⟩, c⟩
  · rintro ⟨⟨a, b⟩, c⟩; exact ⟨a, b, c⟩
theorem Wj {ps : List Int} {p kind : Int} (h : (0 ≤ p ∧ p < ps.length) ∧ ps.getD p.toNat 0 = kind) : PZ ps p kind = 0 := by
  unfold PZ
  rw [if_neg (not_not_intro ⟨h.1.1, by omega⟩), if_neg (not_not_intro h.2)]
section
variable {wide : Int} {ps : List Int} {w v : Int}
theorem VD (hc : PU wide ps = 0) (hw : okW w) (hv : 1 ≤ v ∧ v ≤ 40) : KX wide ps w v = 0 := by
  unfold KX PJ
  rw [if_neg (not_not_intro hc), if_neg]
  rintro (h | h)
  · exact h hw
  · exact h hv
structure Hs (wide : Int) (ps : List Int) (w v : Int) (H : List Int) : Prop where
  ck : PU wide ps = 0
  ww : okW w
  vv : 1 ≤ v ∧ v ≤ 40
  is : ∀ x ∈ H, (0 ≤ x ∧ x < ps.length) ∧ ps.getD x.toNat 0 = 1
  nd : H.Nodup
theorem Hs.Za {H : List Int} (h : Hs wide ps w v H) : KX wide ps w v = 0 := VD h.ck h.ww h.vv
theorem Hs.ask {H : List Int} (h : Hs wide ps w v H) : Kz wide ps w v H = 0 := LR.2 ⟨h.Za, fun x hx => Wj (h.is x hx), h.nd⟩
theorem Hs.open {H : List Int} (h : Hs wide ps w v H) : FT wide ps w = 0 := Ro h.ck h.ww
theorem Hs.Pv {H : List Int} (h : Hs wide ps w v H) : ps.length ≤ 30 := (Fs h.open).2.1.2
theorem Hs.all (hc : PU wide ps = 0) (hw : okW w) (hv : 1 ≤ v ∧ v ≤ 40) : Hs wide ps w v (Kf 1 ps 0) := ⟨hc, hw, hv, fun _ hx => V5.1 hx, RL ps 0⟩
theorem Hs.sub {H H' : List Int} (h : Hs wide ps w v H) (hs : ∀ x ∈ H', x ∈ H) (hn : H'.Nodup) : Hs wide ps w v H' := ⟨h.ck, h.ww, h.vv, fun x hx => h.is x (hs x hx), hn⟩
theorem Hs.len {H : List Int} (h : Hs wide ps w v H) : H.length ≤ 10 := by
  have h1 : H.length ≤ (Kf 1 ps 0).length := h.nd.length_le_of_subset fun x hx => V5.2 (h.is x hx)
  rw [Oa] at h1
  have := (Fs h.open).2.2.2.2.2
  omega
theorem Hs.AF {H : List Int} (h : Hs wide ps w v H) {v' : Int} (hv : 1 ≤ v' ∧ v' ≤ 40) : Hs wide ps w v' H := ⟨h.ck, h.ww, hv, h.is, h.nd⟩
theorem VG (P : Nat → Bool) (n : Nat) : (IP P n).Pairwise (· < ·) := by
  unfold IP
  rw [List.pairwise_map]
  exact (List.pairwise_lt_range.filter P).imp fun h => by simp only [Int.ofNat_eq_natCast]; omega
theorem Vz {l : List Int} {x : Int} (h : l.Pairwise (· < ·)) : l = [x] ↔ x ∈ l ∧ ∀ y ∈ l, y = x := by
  constructor
  · rintro rfl; exact ⟨List.mem_singleton.2 rfl, fun y hy => List.mem_singleton.1 hy⟩
  · rintro ⟨h1, h2⟩
    match l, h, h1, h2 with
    | [], _, h1, _ => cases h1
    | [y], _, _, h2 => rw [h2 y (List.mem_singleton.2 rfl)]
    | y :: z :: l, h, _, h2 =>
      have := (List.pairwise_cons.1 h).1 z (List.mem_cons_self ..)
      have := h2 y (List.mem_cons_self ..)
      have := h2 z (List.mem_cons_of_mem _ (List.mem_cons_self ..))
      omega
def J8 (wide : Int) (ps : List Int) (w v : Int) (h : Int) : List Int := IP (fun s => MQ wide ps w v s h.toNat) ps.length
theorem Uy (hn : ps.length ≤ 30) {s : Nat} (hs : s < 30) (h : Int) : (C2 wide ps w v h).getD s false = (decide (s < ps.length) && MQ wide ps w v s h.toNat) := Vy hn hs h.toNat
theorem JB (hn : ps.length ≤ 30) {s : Nat} (hs : s < 30) {h : Int} : (C2 wide ps w v h).getD s false = true ↔ s < ps.length ∧ MQ wide ps w v s h.toNat = true := by
  rw [Uy hn hs, Bool.and_eq_true, decide_eq_true_iff]
theorem Ue (hn : ps.length ≤ 30) (h : Int) : Fp (C2 wide ps w v h) = some (J8 wide ps w v h) := by
  unfold C2 Is J8
  rw [RS, Vv hn]
theorem P4 {s p : Nat} (h : MQ wide ps w v s p = true) : ps.getD s 0 = 0 := by
  unfold MQ at h
  rw [Bool.and_eq_true, decide_eq_true_iff] at h
  exact h.1
theorem M1 (hn : ps.length ≤ 30) {H : List Int} : List.replicate 30 false ∈ EP wide ps w v H ↔ ∃ h ∈ H, J8 wide ps w v h = [] := by
  rw [Ot, List.mem_map]
  constructor
  · rintro ⟨h, h1, h2⟩; exact ⟨h, h1, (PW hn).1 h2⟩
  · rintro ⟨h, h1, h2⟩; exact ⟨h, h1, (PW hn).2 h2⟩
theorem Iq {h : Int} {s : Int} : s ∈ J8 wide ps w v h ↔ (0 ≤ s ∧ s < ps.length) ∧ MQ wide ps w v s.toNat h.toNat = true := OU
def KT (wide : Int) (ps : List Int) (w v : Int) (H : List Int) : List Int := H.filterMap fun h => if (J8 wide ps w v h).length = 1 then some ((J8 wide ps w v h).getD 0 0) else none
theorem TH {H : List Int} {s : Int} : s ∈ KT wide ps w v H ↔ ∃ h ∈ H, J8 wide ps w v h = [s] := by
  unfold KT
  rw [List.mem_filterMap]
  constructor
  · rintro ⟨h, h1, h2⟩
    refine ⟨h, h1, ?_⟩
    split at h2
    · rename_i h3
      match hl : J8 wide ps w v h, h3 with
      | [x], _ =>
        rw [hl] at h2
        have : x = s := Option.some.inj h2
        rw [this]
    · cases h2
  · rintro ⟨h, h1, h2⟩
    exact ⟨h, h1, by rw [h2]; rfl⟩
theorem QN (hn : ps.length ≤ 30) : ∀ (H acc : List Int), acc.length + H.length ≤ 100000 → D5 (EP wide ps w v H) acc = some (acc ++ KT wide ps w v H)
  | [], acc, _ => by simp [EP, D5, KT]
  | h :: H, acc, hl => by
    rw [List.length_cons] at hl
    have e : EP wide ps w v (h :: H) = C2 wide ps w v h :: EP wide ps w v H := rfl
    rw [e]
    unfold D5
    rw [Ue hn, Ax]
    by_cases hc : (J8 wide ps w v h).length = 1
    · have em : KT wide ps w v (h :: H) = (J8 wide ps w v h).getD 0 0 :: KT wide ps w v H := by
        unfold KT
        rw [List.filterMap_cons_some (by rw [if_pos hc])]
      have g0 : ix (J8 wide ps w v h) 0 (fun x2 => ap acc [x2] fun aa => D5 (EP wide ps w v H) aa) = ap acc [(J8 wide ps w v h).getD 0 0] fun aa => D5 (EP wide ps w v H) aa := Sv (i := 0) _ (by omega)
      rw [if_pos (by omega), g0, Lp (by simp; omega), QN hn H _ (by simp; omega), em, List.append_assoc]; rfl
    · have em : KT wide ps w v (h :: H) = KT wide ps w v H := by
        unfold KT
        rw [List.filterMap_cons_none (by rw [if_neg hc])]
      rw [if_neg (by omega), QN hn H _ (by omega), em]
theorem Tx (H : List Int) : (KT wide ps w v H).length ≤ H.length := List.length_filterMap_le ..
theorem VX {H : List Int} (hH : Hs wide ps w v H) : ((∃ h ∈ H, J8 wide ps w v h = []) ∧ Hz wide ps w v H = some ([], 6)) ∨ ((∀ h ∈ H, J8 wide ps w v h ≠ []) ∧ ∃ M, Hz wide ps w v H = some (M, 0) ∧ (∃ R, R.Perm (KT wide ps w v H) ∧ R.Pairwise (· ≤ ·) ∧ M = Tl R) ∧ ∀ s, s ∈ M ↔ ∃ h ∈ H, J8 wide ps w v h = [s]) := by
  have hn := hH.Pv
  have hl := hH.len
  have aa := Tx (wide := wide) (ps := ps) (w := w) (v := v) H
  unfold Hz
  rw [JT (by omega) H (by omega), hH.ask, Le, if_neg (fun h => h rfl), BF (decide_eq_true rfl), if_pos rfl, Rg, Ax]
  by_cases hd : ∃ h ∈ H, J8 wide ps w v h = []
  · exact .inl ⟨hd, by rw [if_pos (decide_eq_true ((M1 hn).2 hd))]⟩
  · refine .inr ⟨fun h hh he => hd ⟨h, hh, he⟩, ?_⟩
    obtain ⟨R, h1, h2, h3⟩ := SG (s := KT wide ps w v H) (by omega)
    have ab := h2.length_eq
    refine ⟨Tl R, ?_, ⟨R, h2, h3, rfl⟩, fun s => ?_⟩
    · rw [if_neg (by rw [decide_eq_true_iff]; exact fun h => hd ((M1 hn).1 h)), QN hn H [] (by simp; omega), Ax, List.nil_append, h1, Ax, RB (by omega), Ax]
    · rw [Ud, h2.mem_iff, TH]
end
end Go.Proofs.YtkfbbjiniapooaaGreat
namespace Go.Proofs.YtkfbbjiniapooaaGreat
open Go.PL Go.Hear
section
variable {wide : Int} {ps : List Int} {w v : Int}
theorem We {H : List Int} (hH : Hs wide ps w v H) : ((∃ h ∈ H, J8 wide ps w v h = []) ∧ DQ wide ps w v H = some ([], 6)) ∨ ((∀ h ∈ H, J8 wide ps w v h ≠ []) ∧ ∃ L, DQ wide ps w v H = some (L.map Int.ofNat, 0) ∧ Ng (EP wide ps w v H) L) := by
  have hn := hH.Pv
  have hl := hH.len
  rcases TY (by omega) (by omega) hH.ask with ⟨h1, h2⟩ | ⟨h1, h2⟩
  · exact .inl ⟨(M1 hn).1 h1, h2⟩
  · exact .inr ⟨fun h hh he => h1 ((M1 hn).2 ⟨h, hh, he⟩), h2⟩
end
structure MP (f f' : Int → List Bool) (H H' : List Int) (to : Int → Int) (ts : Nat → Nat) : Prop where
  sub : ∀ h ∈ H, to h ∈ H'
  back : ∀ h' ∈ H', ∃ h ∈ H, to h = h'
  inj : ∀ x ∈ H, ∀ y ∈ H, to x = to y → x = y
  row : ∀ h ∈ H, ∀ s, s < 30 → (f h).getD s false = true → ts s < 30 ∧ (f' (to h)).getD (ts s) false = true
  YB : ∀ h ∈ H, ∀ s, s < 30 → (f' (to h)).getD s false = true → ts s < 30 ∧ (f h).getD (ts s) false = true
section
variable {f f' : Int → List Bool} {H H' : List Int} {to : Int → Int} {ts : Nat → Nat}
theorem MP.ap (h : MP f f' H H' to ts) {A A' : List Int} (ha : Sw f H A) (aa : Sw f' H' A') : A.length ≤ A'.length := by
  refine ha.map_le aa h.inj h.sub fun x hx y hy hc => KY.2 fun s hs hb => ?_
  obtain ⟨r1, r2⟩ := h.YB x hx s hs hb.1
  obtain ⟨_, r3⟩ := h.YB y hy s hs hb.2
  exact KY.1 hc (ts s) r1 ⟨r2, r3⟩
end
section
variable {down : Bool} {wide rows w v : Int} {ps : List Int}
end
end Go.Proofs.YtkfbbjiniapooaaGreat
namespace Go.Proofs.YtkfbbjiniapooaaGreat
open Go.PL Go.Hear
section
variable {V8 : List Int} {wide : Int} {ps : List Int}
end
section
variable {wide : Int} {ps : List Int} {w v : Int}
theorem VC {s : Nat} : WC ps s = true ↔ s < ps.length ∧ ps.getD s 0 = 0 := by
  unfold WC
  rw [Bool.and_eq_true, decide_eq_true_iff, decide_eq_true_iff]
theorem Wd (hn : ps.length ≤ 30) (H : List Int) : ∀ s, WC ps s = false → Dp (EP wide ps w v H) s = List.replicate (EP wide ps w v H).length false := fun s hs => by
  rw [Qm hn, Ly]; exact WY hs
structure YF (ps : List Int) (k : Nat) (out : List Int) : Prop where
  le : out.Pairwise (· ≤ ·)
  nd : out.Nodup
  st : ∀ x ∈ out, x ∈ Kf 0 ps 0
  len : out.length ≤ k
end
end Go.Proofs.YtkfbbjiniapooaaGreat
namespace Go.Proofs.YtkfbbjiniapooaaGreat
open Go.PL Go.Hear
theorem Qk : ∀ (l : List Nat) {a b : List Nat}, HN a b → HN (l ++ a) (l ++ b)
  | [], _, _, h => h
  | _ :: l, _, _, h => .inr ⟨rfl, Qk l h⟩
section
variable {com : Nat → Nat → Bool}
theorem LC : ∀ (d f : Nat) (l : List Nat), (kids com d f l).Pairwise fun a b => a.length = b.length → HN a b
  | 0, _, _ => List.Pairwise.nil
  | d + 1, f, l => by
    have ab := LC d (f + 1) (l ++ [f])
    have aa := LC d (f + 1) l
    unfold kids
    by_cases hc : (l.all fun k => !com k f) = true
    · rw [if_pos hc, List.pairwise_append]
      refine ⟨List.pairwise_cons.2 ⟨fun b hb he => ?_, ab⟩, aa, fun a ha b hb _ => ?_⟩
      · obtain ⟨x, t, rfl, _⟩ := Jd.1 hb
        simp at he
      · obtain ⟨x, t, rfl, ⟨h1, _⟩, _⟩ := Jd.1 hb
        rcases List.mem_cons.1 ha with rfl | ha
        · exact Qk l (.inl (by omega))
        · obtain ⟨y, u, rfl, _⟩ := Jd.1 ha
          rw [List.append_assoc]
          exact Qk l (.inl (by omega))
    · rw [if_neg hc, List.nil_append]; exact aa
theorem O0 : ∀ (Q : List (List Nat)) (o : List Nat), (Og o Q).length ≤ o.length → Og o Q = o
  | [], _, _ => rfl
  | z :: Q, o, hl => by
    have e2 : Og o (z :: Q) = Og (if o.length < z.length then z else o) Q := rfl
    rw [e2] at hl ⊢
    by_cases hz : o.length < z.length
    · rw [if_pos hz] at hl
      have := (QH Q z).2.1
      omega
    · rw [if_neg hz] at hl ⊢
      exact O0 Q o hl
theorem NV : ∀ (Q : List (List Nat)) (o x : List Nat), (Q.Pairwise fun a b => a.length = b.length → HN a b) → x ∈ Q → x.length = (Og o Q).length → o.length < x.length → HN (Og o Q) x
  | [], _, _, _, h, _, _ => by cases h
  | y :: Q, o, x, hp, hx, he, ho => by
    have e2 : Og o (y :: Q) = Og (if o.length < y.length then y else o) Q := rfl
    have p := List.pairwise_cons.1 hp
    rw [e2] at he ⊢
    by_cases h : o.length < y.length
    · rw [if_pos h] at he ⊢
      have aa := (QH Q y).2.1
      rcases List.mem_cons.1 hx with e | hx
      · subst e
        rw [O0 Q x (by omega)]; exact Pc x
      · rcases Nat.lt_or_ge y.length x.length with h1 | h1
        · exact NV Q y x p.2 hx he h1
        · rw [O0 Q y (by omega)]
          exact p.1 x hx (by omega)
    · rw [if_neg h] at he ⊢
      rcases List.mem_cons.1 hx with e | hx
      · subst e; exact absurd ho h
      · exact NV Q o x p.2 hx he ho
theorem R8 (n : Nat) {L : List Nat} (h : Gd com n 0 [] L) (he : L.length = (Md com n).length) : HN (Md com n) L := by
  cases L with
  | nil =>
    have : Md com n = [] := List.length_eq_zero_iff.1 he.symm
    rw [this]; trivial
  | cons x t => exact NV _ [] _ (LC n 0 []) (Jd.2 ⟨x, t, rfl, by rwa [Nat.zero_add]⟩) he (by simp)
end
theorem Sy {f : Nat → Nat} {n : Nat} (hf : ∀ i j, i < n → j < n → i < j → f i < f j) : ∀ {a b : List Nat}, (∀ x ∈ a, x < n) → (∀ x ∈ b, x < n) → HN a b → HN (a.map f) (b.map f)
  | [], _, _, _, _ => trivial
  | x :: a, [], _, _, h => by cases h
  | x :: a, y :: b, ha, hb, h => by
    rcases h with h | ⟨rfl, h⟩
    · exact .inl (hf x y (ha x (List.mem_cons_self ..)) (hb y (List.mem_cons_self ..)) h)
    · exact .inr ⟨rfl, Sy hf (fun z hz => ha z (List.mem_cons_of_mem _ hz)) (fun z hz => hb z (List.mem_cons_of_mem _ hz)) h⟩
theorem Pb : ∀ {p : Int} {l : List Int}, (p :: l).Pairwise (· ≤ ·) → (p :: HD p l).Pairwise (· < ·)
  | p, [], _ => List.pairwise_singleton ..
  | p, y :: l, h => by
    have h1 := List.pairwise_cons.1 h
    have h2 := List.pairwise_cons.1 h1.2
    unfold HD
    by_cases hy : y = p
    · rw [if_pos hy]
      exact Pb (List.pairwise_cons.2 ⟨fun x hx => h1.1 x (List.mem_cons_of_mem _ hx), h2.2⟩)
    · rw [if_neg hy]
      have ih := Pb h1.2
      have aa := h1.1 y (List.mem_cons_self ..)
      refine List.pairwise_cons.2 ⟨fun x hx => ?_, ih⟩
      rcases List.mem_cons.1 hx with rfl | hx
      · omega
      · have := (List.pairwise_cons.1 ih).1 x hx; omega
theorem Vt {l : List Int} (h : l.Pairwise (· ≤ ·)) : (Tl l).Pairwise (· < ·) := by
  cases l with
  | nil => exact List.Pairwise.nil
  | cons x l => exact Pb h
theorem SP {a b : List Int} (ha : a.Pairwise (· < ·)) (hb : b.Pairwise (· < ·)) (h : ∀ x, x ∈ a ↔ x ∈ b) : a = b :=
  N8 ((List.perm_ext_iff_of_nodup (ha.imp fun h => by omega) (hb.imp fun h => by omega)).2 h) (ha.imp fun h => by omega) (hb.imp fun h => by omega)
section
variable {wide : Int} {ps : List Int} {w v : Int}
theorem M7 {h : Int} (hh : 0 ≤ h ∧ h < ps.length) {β : Type} (f : List Int → Option β) : ix (Im wide ps w v) h f = f (J8 wide ps w v h) := by
  unfold Im
  rw [Na hh.1 (Hk _ (by omega))]; rfl
theorem Pm : ∀ {H : List Int}, (∀ x ∈ H, 0 ≤ x ∧ x < ps.length) → ∃ b, Gu (Im wide ps w v) H = some b ∧ (b = true ↔ ∃ h ∈ H, J8 wide ps w v h = [])
  | [], _ => ⟨false, rfl, by simp⟩
  | h :: H, hH => by
    obtain ⟨b, aa, ab⟩ := Pm (H := H) fun x hx => hH x (List.mem_cons_of_mem _ hx)
    unfold Gu at aa ⊢
    unfold EG
    rw [M7 (hH h (List.mem_cons_self ..))]
    by_cases hc : J8 wide ps w v h = []
    · exact ⟨true, by rw [hc]; rfl, ⟨fun _ => ⟨h, List.mem_cons_self .., hc⟩, fun _ => rfl⟩⟩
    · have : ¬ ((J8 wide ps w v h).length : Int) = 0 := fun h0 => hc (List.length_eq_zero_iff.1 (by omega))
      refine ⟨b, by rw [if_neg this]; exact aa, ?_⟩
      rw [ab]
      constructor
      · rintro ⟨x, hx, he⟩; exact ⟨x, List.mem_cons_of_mem _ hx, he⟩
      · rintro ⟨x, hx, he⟩
        rcases List.mem_cons.1 hx with rfl | hx
        · exact absurd he hc
        · exact ⟨x, hx, he⟩
theorem LW {H : List Int} (hH : Hs wide ps w v H) (L : List Nat) : ∃ n : Nat, DV (Im wide ps w v) H (L.map Int.ofNat) = some (n : Int) ∧ n ≤ H.length ∧ (n = H.length ↔ PS (EP wide ps w v H) L) := by
  have hr : ∀ x ∈ H, 0 ≤ x ∧ x < ps.length := fun x hx => (hH.is x hx).1
  have hn := hH.Pv
  have hl := hH.len
  refine ⟨_, TW hr (by omega) L, ?_, ?_⟩
  · have := VV (NM (WX wide ps w v H) (List.replicate H.length false) L)
    rw [← Qm hn, ← Ly wide ps w v H] at this ⊢
    have e0 : List.replicate (EP wide ps w v H).length false = (EP wide ps w v H).map fun _ => false := by rw [List.map_const']
    have e1 : Dp (EP wide ps w v H) = fun s => (EP wide ps w v H).map fun r => r.getD s false := rfl
    rw [e0, e1, MZ, Oy]
    exact List.countP_le_length
  · rw [← Qm hn, ← Ly wide ps w v H, OA]
theorem S2 {H : List Int} (hH : Hs wide ps w v H) {many : Int} {aa : Int → Option (List Int × Int)} {L : List Nat} (hL : PS (EP wide ps w v H) L) : ∀ Q : List (List Nat), (∀ x ∈ Q, PS (EP wide ps w v H) x → x.length = L.length ∧ HN L x) → Q.Pairwise HN → L ∈ Q → Cx H (Im wide ps w v) many aa (Q.map (·.map Int.ofNat)) = some (L.map Int.ofNat, 0)
  | [], _, _, h => by cases h
  | x :: Q, hQ, hp, hm => by
    have p := List.pairwise_cons.1 hp
    obtain ⟨n, n1, n2, n3⟩ := LW hH x
    rw [List.map_cons]
    unfold Cx
    rw [n1, Ax]
    by_cases hx : PS (EP wide ps w v H) x
    · obtain ⟨q1, q2⟩ := hQ x (List.mem_cons_self ..) hx
      have : x = L := by
        rcases List.mem_cons.1 hm with e | hm
        · exact e.symm
        · exact MI q1 (p.1 L hm) q2
      rw [if_pos (by have := n3.2 hx; omega), this]
    · have ab : L ≠ x := fun e => hx (e ▸ hL)
      have ad : L ∈ Q := (List.mem_cons.1 hm).resolve_left ab
      rw [if_neg (fun h => hx (n3.1 (by omega)))]
      exact S2 hH hL Q (fun y hy => hQ y (List.mem_cons_of_mem _ hy)) p.2 ad
theorem S8 {H : List Int} (hH : Hs wide ps w v H) {many : Int} {aa : Int → Option (List Int × Int)} : ∀ Q : List (List Nat), (∀ x ∈ Q, ¬ PS (EP wide ps w v H) x) → Cx H (Im wide ps w v) many aa (Q.map (·.map Int.ofNat)) = ER many aa
  | [], _ => rfl
  | x :: Q, hQ => by
    obtain ⟨n, n1, n2, n3⟩ := LW hH x
    rw [List.map_cons]
    unfold Cx
    rw [n1, Ax, if_neg (fun h => hQ x (List.mem_cons_self ..) (n3.1 (by omega)))]
    exact S8 hH Q fun y hy => hQ y (List.mem_cons_of_mem _ hy)
theorem O4 (hn : ps.length ≤ 30) {x : List Nat} {k : Nat} (hx : x ∈ JV (Lj ps) k) : Mb 0 x ∧ x.length = k := by
  obtain ⟨h1, h2⟩ := Hp.1 hx
  exact ⟨QP JJ (fun s hs => by have := (M6.1 hs).1; omega) h1, h2⟩
theorem S6 {H : List Int} (hH : Hs wide ps w v H) (aa : (Lj ps).length ≤ 12) {L : List Nat} (hL : Ng (EP wide ps w v H) L) (hs : ∀ s ∈ L, WC ps s = true) : ∀ (d k fu : Nat), k + d = L.length → d < fu → Ca wide ps H (Im wide ps w v) fu (k : Int) = some (L.map Int.ofNat, 0)
  | _, _, 0, _, h => absurd h (Nat.not_lt_zero _)
  | d, k, fu + 1, hk, h => by
    have hn := hH.Pv
    have ad := hL.inc.len (by omega)
    unfold Ca
    rw [N9 (by omega), Ax, OY FU k (Lj ps) (by unfold FU; omega) (by omega) aa, Ax]
    cases d with
    | zero =>
      refine S2 hH hL.all _ (fun x hx ha => ?_) (J7 JJ) ?_
      · obtain ⟨i1, i2⟩ := O4 hn hx
        rcases hL.min x i1 ha with h1 | ⟨h1, h2⟩
        · omega
        · exact ⟨h1.symm, h2⟩
      · exact Hp.2 ⟨Ou JJ hL.inc fun s ab => M6.2 (VC.1 (hs s ab)), by omega⟩
    | succ d =>
      rw [S8 hH _ fun x hx ha => by
        obtain ⟨i1, i2⟩ := O4 hn hx
        rcases hL.min x i1 ha with h1 | ⟨h1, _⟩ <;> omega]
      unfold ER
      rw [BF (AT (by omega)), show (k : Int) + 1 = ((k + 1 : Nat) : Int) from rfl]
      exact S6 hH aa hL hs d (k + 1) fu (by omega) (by omega)
theorem Vf {H : List Int} (hH : Hs wide ps w v H) (aa : (Lj ps).length ≤ 12) : ∃ l e, DQ wide ps w v H = some (l, e) ∧ DP wide ps w v H = some (l, e) := by
  have hn := hH.Pv
  obtain ⟨b, d1, d2⟩ := Pm (wide := wide) (w := w) (v := v) (H := H) fun x hx => (hH.is x hx).1
  have e : DP wide ps w v H = if b = true then some ([], 6) else Ca wide ps H (Im wide ps w v) FU 0 := by
    unfold DP
    rw [JC (by omega), hH.ask, Ax, if_neg (fun h => h rfl), QB hH.open, Ax, d1, Ax]
  rcases We hH with ⟨c1, c2⟩ | ⟨c1, L, c2, c3⟩
  · exact ⟨_, _, c2, by rw [e, if_pos (d2.2 c1)]⟩
  · refine ⟨_, _, c2, ?_⟩
    rw [e, if_neg (fun h => by obtain ⟨x, hx, he⟩ := d2.1 h; exact c1 x hx he)]
    exact S6 hH aa c3 (fun s hs => c3.use (WC ps) (Wd hn _) s hs) L.length 0 FU (by omega) (by unfold FU; have := c3.inc.len (by omega); omega)
theorem U1 (hn : ps.length ≤ 30) {H : List Int} (ad : ∀ h ∈ H, J8 wide ps w v h ≠ []) {s : Nat} {L : List Nat} (hL : ∀ t, t ∈ L ↔ t ∈ Lj ps ∧ t ≠ s) : ¬ PS (EP wide ps w v H) L ↔ ∃ h ∈ H, J8 wide ps w v h = [(s : Int)] := by
  constructor
  · intro ae
    refine Classical.byContradiction fun aa => ae fun r hr => ?_
    rw [Ot] at hr
    obtain ⟨h, hh, rfl⟩ := List.mem_map.1 hr
    refine Classical.byContradiction fun af => aa ⟨h, hh, (Vz (VG _ _)).2 ?_⟩
    have ab : ∀ y ∈ J8 wide ps w v h, y = (s : Int) := fun y hy => by
      refine Classical.byContradiction fun ah => af ⟨y.toNat, ?_, ?_⟩
      · have := Iq.1 hy
        exact (hL _).2 ⟨M6.2 ⟨by omega, P4 this.2⟩, by omega⟩
      · have := Iq.1 hy
        exact (JB hn (by omega)).2 ⟨by omega, this.2⟩
    obtain ⟨y, hy⟩ : ∃ y, y ∈ J8 wide ps w v h := List.exists_mem_of_ne_nil _ (ad h hh)
    refine ⟨?_, ab⟩
    have e := ab y hy
    rw [← e]; exact hy
  · rintro ⟨h, hh, he⟩ ha
    obtain ⟨t, t1, t2⟩ := ha (C2 wide ps w v h) (by rw [Ot]; exact List.mem_map.2 ⟨h, hh, rfl⟩)
    obtain ⟨t3, t4⟩ := (hL t).1 t1
    have t5 := (M6.1 t3).1
    have t6 := (JB hn (by omega)).1 t2
    have hm : (t : Int) ∈ J8 wide ps w v h := Iq.2 ⟨⟨by omega, by omega⟩, by rw [Int.toNat_natCast]; exact t6.2⟩
    rw [he, List.mem_singleton] at hm
    omega
theorem VJ {l : List Nat} (hl : l.Pairwise (· < ·)) {i : Nat} (hi : i < l.length) (t : Nat) : t ∈ l.take i ++ l.drop (i + 1) ↔ t ∈ l ∧ t ≠ l[i] := by
  have e : l = l.take i ++ l[i] :: l.drop (i + 1) := by
    rw [← List.drop_eq_getElem_cons hi, List.take_append_drop]
  have aa : (l.take i ++ l[i] :: l.drop (i + 1)).Nodup := by
    rw [← e]; exact hl.imp fun h => by omega
  rw [List.nodup_append] at aa
  obtain ⟨_, n2, n3⟩ := aa
  have n4 := List.nodup_cons.1 n2
  have hm : t ∈ l ↔ t ∈ l.take i ++ l[i] :: l.drop (i + 1) := by rw [← e]
  rw [hm]
  simp only [List.mem_append, List.mem_cons]
  constructor
  · rintro (h | h)
    · refine ⟨.inl h, fun he => ?_⟩
      exact n3 t h (l[i]) (List.mem_cons_self ..) he
    · exact ⟨.inr (.inr h), fun he => n4.1 (he ▸ h)⟩
  · rintro ⟨h | h | h, ab⟩
    · exact .inl h
    · exact absurd h ab
    · exact .inr h
theorem RA {H : List Int} (hH : Hs wide ps w v H) (ae : ∀ h ∈ H, J8 wide ps w v h ≠ []) : ∀ (tl pre : List Nat) (acc : List Int), Lj ps = pre ++ tl → acc.length + tl.length ≤ 1000 → acc.Pairwise (· < ·) → (∀ x ∈ acc, ∃ t ∈ pre, x = (t : Int)) → (∀ t ∈ pre, (t : Int) ∈ acc ↔ ∃ h ∈ H, J8 wide ps w v h = [(t : Int)]) →
    ∃ M : List Int, CJ H (Im wide ps w v) ((Lj ps).map Int.ofNat) (tl.map Int.ofNat) (pre.length : Int) acc = some M ∧ M.Pairwise (· < ·) ∧ (∀ x ∈ M, ∃ t ∈ Lj ps, x = (t : Int)) ∧ ∀ t ∈ Lj ps, (t : Int) ∈ M ↔ ∃ h ∈ H, J8 wide ps w v h = [(t : Int)]
  | [], pre, acc, he, _, h1, h2, h3 => by
    rw [List.append_nil] at he
    exact ⟨acc, rfl, h1, by rw [he]; exact h2, by rw [he]; exact h3⟩
  | x :: tl, pre, acc, he, hl, h1, h2, h3 => by
    rw [List.length_cons] at hl
    have hn := hH.Pv
    have hi : pre.length < (Lj ps).length := by rw [he]; simp
    have hx : (Lj ps)[pre.length] = x := by
      simp [he]
    have ai : (Lj ps).length ≤ 30 := by
      have := List.length_filter_le (fun s => decide (ps.getD s 0 = 0)) (List.range ps.length)
      rw [List.length_range] at this
      exact Nat.le_trans this hn
    have hw := VJ (JJ (ps := ps)) hi
    rw [hx] at hw
    obtain ⟨n, n1, n2, n3⟩ := LW hH ((Lj ps).take pre.length ++ (Lj ps).drop (pre.length + 1))
    have af := U1 hn ae hw
    have e1 : sl ((Lj ps).map Int.ofNat) 0 (pre.length : Int) = ((Lj ps).take pre.length).map Int.ofNat := by rw [Q1, List.map_take]
    have e2 : sl ((Lj ps).map Int.ofNat) ((pre.length : Int) + 1) (((Lj ps).map Int.ofNat).length : Int) = ((Lj ps).drop (pre.length + 1)).map Int.ofNat := by
      unfold sl
      rw [Int.toNat_natCast, List.take_length, show ((pre.length : Int) + 1).toNat = pre.length + 1 by omega, List.map_drop]
    have ab : ∀ t ∈ pre, t < x := fun t ht => by
      have := JJ (ps := ps)
      rw [he, List.pairwise_append] at this
      exact this.2.2 t ht x (List.mem_cons_self ..)
    have step : ∀ aa : List Int, aa.length + tl.length ≤ 1000 → aa.Pairwise (· < ·) → (∀ y ∈ aa, ∃ t ∈ pre ++ [x], y = (t : Int)) → (∀ t ∈ pre ++ [x], (t : Int) ∈ aa ↔ ∃ h ∈ H, J8 wide ps w v h = [(t : Int)]) → _ := fun aa a b c d => RA hH ae tl (pre ++ [x]) aa (by rw [he, List.append_assoc]; rfl) a b c d
    rw [List.length_append, List.length_singleton] at step
    have ah : ∀ l : List Nat, (x :: l).map Int.ofNat = (x : Int) :: l.map Int.ofNat := fun l => rfl
    rw [ah]
    unfold CJ
    rw [BF ⟨⟨Int.le_refl _, by omega⟩, by rw [List.length_map]; omega⟩, Nx, e1, BF ⟨⟨by omega, by rw [List.length_map]; omega⟩, by omega⟩, Nx, e2, Lp (by simp; omega), List.nil_append, Lp (by simp; omega), ← List.map_append, n1, Ax]
    by_cases hc : PS (EP wide ps w v H) ((Lj ps).take pre.length ++ (Lj ps).drop (pre.length + 1))
    · rw [if_neg (by have := n3.2 hc; omega)]
      refine step acc (by omega) h1 (fun y hy => ?_) (fun t ht => ?_)
      · obtain ⟨t, t1, t2⟩ := h2 y hy
        exact ⟨t, List.mem_append.2 (.inl t1), t2⟩
      · rcases List.mem_append.1 ht with ht | ht
        · exact h3 t ht
        · rw [List.mem_singleton] at ht; subst ht
          constructor
          · intro hm
            obtain ⟨u, u1, u2⟩ := h2 _ hm
            have := ab u u1
            omega
          · intro hm; exact absurd hc (af.2 hm)
    · have ad : (n : Int) < (H.length : Int) := by
        have : n ≠ H.length := fun h => hc (n3.1 h)
        omega
      rw [if_pos ad, Lp (by simp; omega)]
      refine step (acc ++ [(x : Int)]) (by simp; omega) ?_ (fun y hy => ?_) (fun t ht => ?_)
      · rw [List.pairwise_append]
        refine ⟨h1, List.pairwise_singleton .., fun a ha b hb => ?_⟩
        rw [List.mem_singleton] at hb
        obtain ⟨u, u1, u2⟩ := h2 a ha
        have := ab u u1
        omega
      · rcases List.mem_append.1 hy with hy | hy
        · obtain ⟨t, t1, t2⟩ := h2 y hy
          exact ⟨t, List.mem_append.2 (.inl t1), t2⟩
        · rw [List.mem_singleton] at hy
          exact ⟨x, List.mem_append.2 (.inr (List.mem_singleton.2 rfl)), hy⟩
      · rcases List.mem_append.1 ht with ht | ht
        · rw [← h3 t ht, List.mem_append, List.mem_singleton]
          have := ab t ht
          constructor
          · rintro (h | h)
            · exact h
            · omega
          · exact .inl
        · rw [List.mem_singleton] at ht; subst ht
          exact ⟨fun _ => af.1 hc, fun _ => List.mem_append.2 (.inr (List.mem_singleton.2 rfl))⟩
theorem TP {H : List Int} (hH : Hs wide ps w v H) : ∃ l e, Hz wide ps w v H = some (l, e) ∧ Ez wide ps w v H = some (l, e) := by
  have hn := hH.Pv
  obtain ⟨b, d1, d2⟩ := Pm (wide := wide) (w := w) (v := v) (H := H) fun x hx => (hH.is x hx).1
  have e : Ez wide ps w v H = if b = true then some ([], 6) else b1 (CJ H (Im wide ps w v) ((Lj ps).map Int.ofNat) ((Lj ps).map Int.ofNat) 0 []) fun out => some (out, 0) := by
    unfold Ez
    rw [JC (by omega), hH.ask, Ax, if_neg (fun h => h rfl), QB hH.open, Ax, d1, Ax, N9 (by omega), Ax]
  rcases VX hH with ⟨c1, c2⟩ | ⟨c1, M, c2, ⟨R, r1, r2, r3⟩, c4⟩
  · exact ⟨_, _, c2, by rw [e, if_pos (d2.2 c1)]⟩
  · obtain ⟨M', m1, m2, m3, m4⟩ := RA hH c1 (Lj ps) [] [] rfl (by
      have := List.length_filter_le (fun s => decide (ps.getD s 0 = 0)) (List.range ps.length)
      rw [List.length_range] at this
      have h2 : (Lj ps).length ≤ ps.length := this
      simp; omega) List.Pairwise.nil (fun _ h => by cases h) (fun _ h => by cases h)
    have ad : CJ H (Im wide ps w v) ((Lj ps).map Int.ofNat) ((Lj ps).map Int.ofNat) 0 [] = some M' := m1
    have : M = M' := SP (by rw [r3]; exact Vt r2) m2 fun x => by
      rw [c4]
      constructor
      · rintro ⟨h, hh, he⟩
        have hx : x ∈ J8 wide ps w v h := by rw [he]; exact List.mem_singleton.2 rfl
        have aa := Iq.1 hx
        have ab : ((x.toNat : Nat) : Int) = x := Int.toNat_of_nonneg aa.1.1
        have := (m4 x.toNat (M6.2 ⟨by omega, P4 aa.2⟩)).2 ⟨h, hh, by rw [ab]; exact he⟩
        rwa [ab] at this
      · intro hx
        obtain ⟨t, t1, rfl⟩ := m3 x hx
        exact (m4 t t1).1 hx
    refine ⟨M, 0, c2, ?_⟩
    rw [e, if_neg (fun h => by obtain ⟨x, hx, he⟩ := d2.1 h; exact c1 x hx he), ad, Ax, this]
theorem Tr (hn : ps.length ≤ 30) {a b : Int} : Fw (C2 wide ps w v a) (C2 wide ps w v b) = true ↔ ∃ s, s ∈ J8 wide ps w v a ∧ s ∈ J8 wide ps w v b := by
  constructor
  · intro h
    refine Classical.byContradiction fun aa => ?_
    have : Fw (C2 wide ps w v a) (C2 wide ps w v b) = false := KY.2 fun s hs hb => aa ⟨(s : Int), ?_⟩
    · rw [h] at this; cases this
    · have x := (JB hn hs).1 hb.1
      have y := (JB hn hs).1 hb.2
      exact ⟨Iq.2 ⟨⟨by omega, by omega⟩, by rw [Int.toNat_natCast]; exact x.2⟩, Iq.2 ⟨⟨by omega, by omega⟩, by rw [Int.toNat_natCast]; exact y.2⟩⟩
  · rintro ⟨s, h1, h2⟩
    have x := Iq.1 h1
    have y := Iq.1 h2
    cases hc : Fw (C2 wide ps w v a) (C2 wide ps w v b) with
    | true => rfl
    | false => exact absurd ⟨(JB hn (by omega)).2 ⟨by omega, x.2⟩, (JB hn (by omega)).2 ⟨by omega, y.2⟩⟩ (KY.1 hc s.toNat (by omega))
theorem Uf {l : List Int} {x y : Int} (hx : 0 ≤ x ∧ x < ps.length) (hy : 0 ≤ y ∧ y < ps.length) (hl : (J8 wide ps w v x).length ≤ 1000) {k : Nat} (hk : k < l.length) (aa : l.getD k 0 = y) {rec4 : Int → Option Bool} : ∀ (tl pre : List Int) (fu : Nat), J8 wide ps w v x = pre ++ tl → tl.length < fu → CM (Im wide ps w v) l x (k : Int) rec4 fu (pre.length : Int) = if (tl.any fun s => decide (s ∈ J8 wide ps w v y)) = true then some false else rec4 ((k : Int) + 1)
  | _, _, 0, _, h => absurd h (Nat.not_lt_zero _)
  | [], pre, fu + 1, he, _ => by
    rw [List.append_nil] at he
    unfold CM
    rw [M7 hx, he, if_neg (by omega)]; rfl
  | s :: tl, pre, fu + 1, he, hf => by
    rw [List.length_cons] at hf
    have ih := Uf hx hy hl hk aa (rec4 := rec4) tl (pre ++ [s]) fu (by rw [he, List.append_assoc]; rfl) (by omega)
    rw [List.length_append, List.length_singleton] at ih
    have hlen : pre.length < (J8 wide ps w v x).length := by rw [he]; simp
    have hs : (J8 wide ps w v x).getD pre.length 0 = s := by rw [he]; exact Vc
    unfold CM
    rw [M7 hx, if_pos (by omega), Sv _ hk, aa, M7 hy, Sv _ hlen, hs, has_eq, Ax, List.any_cons]
    by_cases hc : s ∈ J8 wide ps w v y
    · rw [decide_eq_true hc, if_pos rfl, Bool.true_or, if_pos rfl]
    · rw [decide_eq_false hc, if_neg (by decide), BF (AT (by omega)), Bool.false_or]
      exact ih
open Classical in
theorem WH (hn : ps.length ≤ 30) {l : List Int} (hl : ∀ x ∈ l, 0 ≤ x ∧ x < ps.length) (aj : l.length ≤ 1000) : ∃ b, HW (Im wide ps w v) l = some b ∧ (b = true ↔ l.Pairwise fun a c => Fw (C2 wide ps w v a) (C2 wide ps w v c) = false) := by
  have ae : ∀ x, (J8 wide ps w v x).length ≤ 1000 := fun x => by
    have := LM (fun s => MQ wide ps w v s x.toNat) ps.length
    exact Nat.le_trans this (by omega)
  -- one house against those before it
  have inner : ∀ (fu k i : Nat) (x : Int) (aa : Int → Option Bool), k + fu = i → i < l.length → l.getD i 0 = x → BT (Im wide ps w v) l (i : Int) x aa fu (k : Int) = if ∃ j : Nat, k ≤ j ∧ j < i ∧ Fw (C2 wide ps w v x) (C2 wide ps w v (l.getD j 0)) = true then some false else aa ((i : Int) + 1) := by
    intro fu
    induction fu with
    | zero =>
      intro k i x aa h1 h2 h3
      rw [if_neg (by rintro ⟨j, a, b, _⟩; omega)]; rfl
    | succ fu ih =>
      intro k i x aa h1 h2 h3
      have gx : ∀ j, j < l.length → 0 ≤ l.getD j 0 ∧ l.getD j 0 < ps.length := fun j hj => by
        rw [List.getD_eq_getElem?_getD, List.getElem?_eq_getElem hj]
        exact hl _ (List.getElem_mem _)
      have h6 := Uf (wide := wide) (w := w) (v := v) (l := l) (x := x) (y := l.getD k 0) (by rw [← h3]; exact gx i h2) (gx k (by omega)) (ae x) (k := k) (by omega) rfl (rec4 := BT (Im wide ps w v) l (i : Int) x aa fu) (J8 wide ps w v x) [] FU rfl (by unfold FU; have := ae x; omega)
      have af : CM (Im wide ps w v) l x (k : Int) (BT (Im wide ps w v) l (i : Int) x aa fu) FU 0 = _ := h6
      unfold BT
      rw [af]
      have ab : ((J8 wide ps w v x).any fun s => decide (s ∈ J8 wide ps w v (l.getD k 0))) = true ↔ Fw (C2 wide ps w v x) (C2 wide ps w v (l.getD k 0)) = true := by
        rw [Tr hn, List.any_eq_true]
        constructor
        · rintro ⟨s, a, b⟩; exact ⟨s, a, of_decide_eq_true b⟩
        · rintro ⟨s, a, b⟩; exact ⟨s, a, decide_eq_true b⟩
      by_cases hc : Fw (C2 wide ps w v x) (C2 wide ps w v (l.getD k 0)) = true
      · rw [if_pos (ab.2 hc), if_pos ⟨k, Nat.le_refl _, by omega, hc⟩]
      · rw [if_neg (fun h => hc (ab.1 h)), show (k : Int) + 1 = ((k + 1 : Nat) : Int) from rfl, ih (k + 1) i x aa (by omega) h2 h3]
        by_cases h7 : ∃ j : Nat, k + 1 ≤ j ∧ j < i ∧ Fw (C2 wide ps w v x) (C2 wide ps w v (l.getD j 0)) = true
        · obtain ⟨j, a, b, c⟩ := h7
          rw [if_pos ⟨j, a, b, c⟩, if_pos ⟨j, by omega, b, c⟩]
        · rw [if_neg h7, if_neg]
          rintro ⟨j, a, b, c⟩
          by_cases hj : j = k
          · subst hj; exact hc c
          · exact h7 ⟨j, by omega, b, c⟩
  have outer : ∀ (tl pre : List Int), l = pre ++ tl → (pre.Pairwise fun a c => Fw (C2 wide ps w v a) (C2 wide ps w v c) = false) → ∃ b, BJ (Im wide ps w v) l tl (pre.length : Int) = some b ∧ (b = true ↔ l.Pairwise fun a c => Fw (C2 wide ps w v a) (C2 wide ps w v c) = false) := by
    intro tl
    induction tl with
    | nil =>
      intro pre he hp
      rw [List.append_nil] at he
      exact ⟨true, rfl, by rw [he]; exact ⟨fun _ => hp, fun _ => rfl⟩⟩
    | cons x tl ih =>
      intro pre he hp
      have hi : pre.length < l.length := by rw [he]; simp
      have hx : l.getD pre.length 0 = x := by rw [he]; exact Vc
      have ah := inner pre.length 0 pre.length x (BJ (Im wide ps w v) l tl) (by omega) hi hx
      have ad : BT (Im wide ps w v) l (pre.length : Int) x (BJ (Im wide ps w v) l tl) pre.length 0 = _ := ah
      unfold BJ
      rw [BF ⟨by decide, AT (by omega)⟩, show Int.toNat ((pre.length : Int) - 0) = pre.length by omega, ad]
      have hg : ∀ j, j < pre.length → l.getD j 0 = pre.getD j 0 := fun j hj => by
        rw [he, List.getD_eq_getElem?_getD, List.getD_eq_getElem?_getD, List.getElem?_append_left hj]
      by_cases hc : ∃ j : Nat, 0 ≤ j ∧ j < pre.length ∧ Fw (C2 wide ps w v x) (C2 wide ps w v (l.getD j 0)) = true
      · rw [if_pos hc]
        refine ⟨false, rfl, ⟨fun h => (by cases h), fun h => ?_⟩⟩
        obtain ⟨j, _, j2, j3⟩ := hc
        rw [he, List.pairwise_append] at h
        rw [hg j j2] at j3
        have hm : pre.getD j 0 ∈ pre := by
          rw [List.getD_eq_getElem?_getD, List.getElem?_eq_getElem j2]; exact List.getElem_mem _
        have := h.2.2 _ hm x (List.mem_cons_self ..)
        rw [OE, j3] at this
        cases this
      · rw [if_neg hc]
        have := ih (pre ++ [x]) (by rw [he, List.append_assoc]; rfl) (by
          rw [List.pairwise_append]
          refine ⟨hp, List.pairwise_singleton .., fun a ha b hb => ?_⟩
          rw [List.mem_singleton] at hb; subst hb
          obtain ⟨j, hj, rfl⟩ := List.getElem_of_mem ha
          cases ai : Fw (C2 wide ps w v pre[j]) (C2 wide ps w v b) with
          | false => rfl
          | true =>
            refine absurd ⟨j, Nat.zero_le _, hj, ?_⟩ hc
            rw [hg j hj, List.getD_eq_getElem?_getD, List.getElem?_eq_getElem hj, OE]
            exact ai)
        rw [List.length_append, List.length_singleton] at this
        exact this
  exact outer l [] rfl List.Pairwise.nil
theorem RW {H : List Int} : ∀ (r : List Int) (k : Nat), ps.drop k = r → k ≤ ps.length → ps.length ≤ 1000 → CO H r (k : Int) (IP (fun s => decide ((s : Int) ∈ H)) k) = some (IP (fun s => decide ((s : Int) ∈ H)) ps.length)
  | [], k, hr, hk, _ => by
    have h := congrArg List.length hr
    rw [List.length_drop, List.length_nil] at h
    have : k = ps.length := by omega
    subst this; rfl
  | x :: r, k, hr, _, hn => by
    obtain ⟨hk, hx, aa⟩ := KK hr
    have ih := RW (H := H) r (k + 1) aa (by omega) hn
    have hlen := LM (fun s => decide ((s : Int) ∈ H)) k
    unfold CO
    rw [show ((k : Int) + 1) = ((k + 1 : Nat) : Int) from rfl, ← ih, IY, has_eq, Ax]
    by_cases h : (k : Int) ∈ H
    · rw [if_pos (decide_eq_true h), if_pos (decide_eq_true h), Lp (by rw [List.length_append, List.length_singleton]; omega)]
    · rw [if_neg (fun h' => h (of_decide_eq_true h')), if_neg (fun h' => h (of_decide_eq_true h')), List.append_nil]
theorem UX (hn : ps.length ≤ 30) {many : Int} {rec3 : Int → Option (List Int × Int)} {A : List Nat} {P : List Nat → Prop} (hP : ∀ x : List Nat, P x ↔ (x.map Int.ofNat).Pairwise fun a c => Fw (C2 wide ps w v a) (C2 wide ps w v c) = false) : ∀ Q : List (List Nat), (∀ x ∈ Q, (∀ s ∈ x, s < ps.length) ∧ x.length ≤ 1000) →
    ((∀ x ∈ Q, ¬ P x) → C9 (Im wide ps w v) many rec3 (Q.map (·.map Int.ofNat)) = Fo many rec3) ∧ (P A → (∀ x ∈ Q, P x → x.length = A.length ∧ HN A x) → Q.Pairwise HN → A ∈ Q → C9 (Im wide ps w v) many rec3 (Q.map (·.map Int.ofNat)) = some (A.map Int.ofNat, 0))
  | [], _ => ⟨fun _ => rfl, fun _ _ _ h => by cases h⟩
  | x :: Q, hQ => by
    obtain ⟨ad, ae⟩ := UX hn (many := many) (rec3 := rec3) (A := A) hP Q fun y hy => hQ y (List.mem_cons_of_mem _ hy)
    obtain ⟨x1, x2⟩ := hQ x (List.mem_cons_self ..)
    obtain ⟨b, c1, c2⟩ := WH (wide := wide) (w := w) (v := v) hn (l := x.map Int.ofNat) (fun y hy => by
      obtain ⟨s, hs, rfl⟩ := List.mem_map.1 hy
      have := x1 s hs
      exact ⟨by simp only [Int.ofNat_eq_natCast]; omega, by simp only [Int.ofNat_eq_natCast]; omega⟩) (by rw [List.length_map]; exact x2)
    rw [← hP x] at c2
    rw [List.map_cons]
    unfold C9
    rw [c1, Ax]
    refine ⟨fun ab => ?_, fun hA aa hp hm => ?_⟩
    · rw [if_neg (fun h => ab x (List.mem_cons_self ..) (c2.1 h))]
      exact ad fun y hy => ab y (List.mem_cons_of_mem _ hy)
    · have p := List.pairwise_cons.1 hp
      by_cases hx : P x
      · obtain ⟨q1, q2⟩ := aa x (List.mem_cons_self ..) hx
        have : x = A := by
          rcases List.mem_cons.1 hm with e | hm
          · exact e.symm
          · exact MI q1 (p.1 A hm) q2
        rw [if_pos (c2.2 hx), this]
      · have af : A ≠ x := fun e => hx (e ▸ hA)
        rw [if_neg (fun h => hx (c2.1 h))]
        exact ae hA (fun y hy => aa y (List.mem_cons_of_mem _ hy)) p.2 ((List.mem_cons.1 hm).resolve_left af)
end
end Go.Proofs.YtkfbbjiniapooaaGreat
namespace Go.Proofs.YtkfbbjiniapooaaGreat
open Go.PL Go.Hear
theorem T5 : ∀ {a : Nat} {L : List Nat}, L.Pairwise (· < ·) → (∀ x ∈ L, a ≤ x ∧ x < 30) → Mb a L
  | _, [], _, _ => trivial
  | a, x :: L, h, hr => by
    have p := List.pairwise_cons.1 h
    exact ⟨hr x (List.mem_cons_self ..), T5 p.2 fun y hy => ⟨p.1 y hy, (hr y (List.mem_cons_of_mem _ hy)).2⟩⟩
theorem Wf {n : Nat} (hn : n ≤ 30) {L : List Nat} (h : L.Pairwise (· < ·)) (hr : ∀ x ∈ L, x < n) : L.Sublist (List.range n) :=
  Ou List.pairwise_lt_range (T5 (a := 0) h fun x hx => ⟨Nat.zero_le _, by have := hr x hx; omega⟩) fun x hx => List.mem_range.2 (hr x hx)
section
variable {wide : Int} {ps : List Int} {w v : Int}
theorem Rz (hn : ps.length ≤ 30) {SN A : List Nat} {P : List Nat → Prop} (hP : ∀ x : List Nat, P x ↔ (x.map Int.ofNat).Pairwise fun a c => Fw (C2 wide ps w v a) (C2 wide ps w v c) = false) (hS : ∀ s ∈ SN, s < ps.length) (hlen : SN.length ≤ 12) (hs : SN.Pairwise (· < ·)) (hA : P A) (ab : A.Sublist SN) (aa : ∀ x : List Nat, x.Sublist SN → P x → x.length ≤ A.length ∧ (x.length = A.length → HN A x)) :
    ∀ (m fu : Nat), A.length ≤ m → m ≤ 12 → m < fu → B5 (Im wide ps w v) (SN.map Int.ofNat) fu (m : Int) = some (A.map Int.ofNat, 0)
  | _, 0, _, _, h => absurd h (Nat.not_lt_zero _)
  | 0, fu + 1, h, _, _ => by
    have : A = [] := List.length_eq_zero_iff.1 (by omega)
    subst this
    unfold B5 GN
    rw [if_neg (by decide)]; rfl
  | m + 1, fu + 1, h, hm, hf => by
    have hQ : ∀ x ∈ JV SN (m + 1), (∀ s ∈ x, s < ps.length) ∧ x.length ≤ 1000 := fun x hx => by
      obtain ⟨h1, h2⟩ := Hp.1 hx
      exact ⟨fun s ad => hS s (h1.subset ad), by omega⟩
    obtain ⟨r1, r2⟩ := UX (wide := wide) (w := w) (v := v) hn (many := ((m + 1 : Nat) : Int)) (rec3 := B5 (Im wide ps w v) (SN.map Int.ofNat) fu) (A := A) hP (JV SN (m + 1)) hQ
    unfold B5
    rw [if_pos (by omega), OY FU (m + 1) SN (by unfold FU; omega) (by omega) hlen, Ax]
    by_cases hc : A.length = m + 1
    · exact r2 hA (fun x hx hp => by
        obtain ⟨h1, h2⟩ := Hp.1 hx
        exact ⟨by omega, (aa x h1 hp).2 (by omega)⟩) (J7 hs) (Hp.2 ⟨ab, hc⟩)
    · rw [r1 fun x hx hp => by
        obtain ⟨h1, h2⟩ := Hp.1 hx
        have := (aa x h1 hp).1
        omega]
      unfold Fo
      rw [BF (AT (by omega)), show ((m + 1 : Nat) : Int) - 1 = (m : Int) by omega]
      exact Rz hn hP hS hlen hs hA ab aa m fu (by omega) (by omega) (by omega)
theorem Ss {H : List Int} (hH : Hs wide ps w v H) : ∃ l e, Hj wide ps w v H = some (l, e) ∧ EK wide ps w v H = some (l, e) := by
  have hn := hH.Pv
  have ba := hH.len
  obtain ⟨own, o1, o2, o3, _⟩ := T9 (by omega) (by omega) hH.ask
  refine ⟨_, 0, o3, ?_⟩
  have av : own.Nodup := o1.nodup_iff.2 hH.nd
  have aw : own.Pairwise (· < ·) := (o2.and av).imp fun h => by have := h.1; have := h.2; omega
  generalize ah : (List.range ps.length).filter (fun s : Nat => decide ((s : Int) ∈ H)) = SN
  have ai : ∀ s, s ∈ SN ↔ s < ps.length ∧ (s : Int) ∈ H := fun s => by
    rw [← ah, List.mem_filter, List.mem_range, decide_eq_true_iff]
  have aj : SN.Pairwise (· < ·) := by rw [← ah]; exact List.pairwise_lt_range.filter _
  have ak : own = SN.map Int.ofNat := SP aw (by
    rw [List.pairwise_map]; exact aj.imp fun h => by simp only [Int.ofNat_eq_natCast]; omega) fun x => by
    rw [o1.mem_iff, List.mem_map]
    constructor
    · intro hx
      have := (hH.is x hx).1
      exact ⟨x.toNat, (ai _).2 ⟨by omega, by rw [Int.toNat_of_nonneg this.1]; exact hx⟩, Int.toNat_of_nonneg this.1⟩
    · rintro ⟨s, hs, rfl⟩
      exact ((ai s).1 hs).2
  have bb : SN.length = own.length := by rw [ak, List.length_map]
  have bc := o1.length_eq
  have hg : ∀ i, i < SN.length → own.getD i 0 = ((SN.getD i 0 : Nat) : Int) := fun i hi => by
    rw [ak, List.getD_eq_getElem?_getD, List.getElem?_map, List.getD_eq_getElem?_getD, List.getElem?_eq_getElem hi]; rfl
  have ao : SN = (List.range SN.length).map fun i => SN.getD i 0 := by
    apply List.ext_getElem (by simp)
    intro i h1 h2
    rw [List.getElem_map, List.getElem_range, List.getD_eq_getElem?_getD, List.getElem?_eq_getElem h1]; rfl
  obtain ⟨g1, g2⟩ := Qj (fun i j => Fw (C2 wide ps w v (own.getD i 0)) (C2 wide ps w v (own.getD j 0))) own.length
  have g3 := fun L => R8 (com := fun i j => Fw (C2 wide ps w v (own.getD i 0)) (C2 wide ps w v (own.getD j 0))) own.length (L := L)
  have ax : Wa (C2 wide ps w v) own = (Md (fun i j => Fw (C2 wide ps w v (own.getD i 0)) (C2 wide ps w v (own.getD j 0))) own.length).map fun i => own.getD i 0 := rfl
  rw [ax]
  generalize Md (fun i j => Fw (C2 wide ps w v (own.getD i 0)) (C2 wide ps w v (own.getD j 0))) own.length = G at g1 g2 g3
  obtain ⟨⟨q1, q2⟩, _, q3⟩ := NI.1 g1
  have aa : ∀ y : List Nat, (∀ x ∈ y, x < SN.length) → (y.map fun i => SN.getD i 0).map Int.ofNat = y.map fun i => own.getD i 0 := fun y hy => by
    rw [List.map_map]
    apply List.map_congr_left
    intro i hi
    exact (hg i (hy i hi)).symm
  have af : ∀ x ∈ G, x < SN.length := fun x hx => by have := q2 x hx; omega
  have aq : ∀ y : List Nat, y.Pairwise (· < ·) → (∀ x ∈ y, x < SN.length) → ((((y.map fun i => SN.getD i 0).map Int.ofNat).Pairwise fun a c => Fw (C2 wide ps w v a) (C2 wide ps w v c) = false) ↔ Gd (fun i j => Fw (C2 wide ps w v (own.getD i 0)) (C2 wide ps w v (own.getD j 0))) own.length 0 [] y) := fun y hy ad => by
    rw [aa y ad, List.pairwise_map, NI]
    constructor
    · intro h; exact ⟨⟨hy, fun x hx => ⟨Nat.zero_le _, by have := ad x hx; omega⟩⟩, (fun _ h => by cases h), h⟩
    · rintro ⟨_, _, h⟩; exact h
  have mono : ∀ i j, i < SN.length → j < SN.length → i < j → SN.getD i 0 < SN.getD j 0 := fun i j hi hj ay => by
    rw [List.getD_eq_getElem?_getD, List.getElem?_eq_getElem hi, List.getD_eq_getElem?_getD, List.getElem?_eq_getElem hj]
    exact List.pairwise_iff_getElem.1 aj i j hi hj ay
  have ar : G.Sublist (List.range SN.length) := Wf (by omega) q1 af
  have az : (G.map fun i => SN.getD i 0).Sublist SN := by
    have := ar.map fun i => SN.getD i 0
    rwa [← ao] at this
  have main := Rz (wide := wide) (w := w) (v := v) hn (SN := SN) (A := G.map fun i => SN.getD i 0) (P := fun x => (x.map Int.ofNat).Pairwise fun a c => Fw (C2 wide ps w v a) (C2 wide ps w v c) = false) (fun x => Iff.rfl) (fun s hs => ((ai s).1 hs).1) (by omega) aj ((aq G q1 af).2 g1) az (fun x hx hp => by
      rw [ao] at hx
      obtain ⟨y, hy, rfl⟩ := List.sublist_map_iff.1 hx
      have ad : ∀ z ∈ y, z < SN.length := fun z hz => List.mem_range.1 (hy.subset hz)
      have hyp : y.Pairwise (· < ·) := List.pairwise_lt_range.sublist hy
      have au := (aq y hyp ad).1 hp
      refine ⟨by rw [List.length_map, List.length_map]; exact g2 y au, fun he => ?_⟩
      rw [List.length_map, List.length_map] at he
      exact Sy mono af ad (g3 y au he)) SN.length FU (by
      rw [List.length_map]
      have := ar.length_le
      rwa [List.length_range] at this) (by omega) (by unfold FU; omega)
  have ae := RW (ps := ps) (H := H) ps 0 rfl (Nat.zero_le _) (by omega)
  have ab : CO H ps 0 [] = some (SN.map Int.ofNat) := by
    have e : IP (fun s : Nat => decide ((s : Int) ∈ H)) ps.length = SN.map Int.ofNat := by rw [← ah]; rfl
    rw [← e]; exact ae
  unfold EK
  rw [JC (by omega), hH.ask, Ax, if_neg (fun h => h rfl), QB hH.open, Ax, ab, Ax, List.length_map, main, aa G af]
end
theorem Rw {wide : Int} {ps : List Int} {w v : Int} {H : List Int} (hb : (ps.length : Int) ≤ 9223372036854775807) : Ck wide ps w v H = some true := by
  by_cases h1 : 40 < (ps.length : Int)
  · unfold Ck Gv
    have aa : ∃ n, B3 ps 0 = some n := by
      have : ∀ (l : List Int) (n : Int), 0 ≤ n → n + l.length ≤ 9223372036854775807 → ∃ m, B3 l n = some m := by
        intro l
        induction l with
        | nil => intro n _ _; exact ⟨n, rfl⟩
        | cons x l ih =>
          intro n h0 h
          simp only [List.length_cons] at h
          unfold B3
          by_cases hx : x = 0
          · rw [if_pos hx, BF (by unfold Cm; omega)]
            exact ih (n + 1) (by omega) (by omega)
          · rw [if_neg hx]
            exact ih n h0 (by omega)
      exact this ps 0 (by omega) (by omega)
    obtain ⟨n, aa⟩ := aa
    rw [aa, Ax, RX, Ax, Tf, Ax, if_pos (decide_eq_true h1), Ax, if_pos rfl, Ax, if_pos rfl]
  have hn : ps.length ≤ 1000 := by omega
  unfold Ck Gv
  rw [Qo ps 0 (by omega) (by omega), Ax, RX, Ax, Tf, Ax, ← TX, Int.zero_add]
  rw [if_neg (fun h => h1 (of_decide_eq_true h))]
  by_cases h2 : 11 < ((Lj ps).length : Int) ∧ (ps.length : Int) ≤ 30
  · rw [if_pos h2.1, Ax, if_pos (decide_eq_true h2.2), Ax, if_pos rfl]
  have e1 : (if 11 < ((Lj ps).length : Int) then some (decide ((ps.length : Int) ≤ 30)) else some false) = some false := by
    by_cases h3 : 11 < ((Lj ps).length : Int)
    · rw [if_pos h3, decide_eq_false (fun h => h2 ⟨h3, h⟩)]
    · rw [if_neg h3]
  rw [e1, Ax, if_neg (by decide), Ax]
  by_cases h3 : 12 < (H.length : Int)
  · rw [if_pos (decide_eq_true h3)]
  rw [if_neg (fun h => h3 (of_decide_eq_true h)), WW hn, Dt, copy_eq (by omega), Ax, Tk hn, Dt]
  have parts : ∃ a b c d e f, DQ wide ps w v H = some (a, b) ∧ DP wide ps w v H = some (a, b) ∧ Hz wide ps w v H = some (c, d) ∧ Ez wide ps w v H = some (c, d) ∧ Hj wide ps w v H = some (e, f) ∧ EK wide ps w v H = some (e, f) := by
    by_cases ha : Kz wide ps w v H = 0
    · obtain ⟨a1, a2, a3⟩ := LR.1 ha
      obtain ⟨c1, c2, c3, c4⟩ := Tg a1
      have hH : Hs wide ps w v H := ⟨c1, (Fs c3).2.2.2.2.1, c4, fun x hx => SE (a2 x hx), a3⟩
      have ab : (Lj ps).length ≤ 12 := by
        have := hH.Pv
        have : ¬ 11 < ((Lj ps).length : Int) := fun h => h2 ⟨h, by omega⟩
        omega
      obtain ⟨a, b, p1, p2⟩ := Vf hH ab
      obtain ⟨c, d, p3, p4⟩ := TP hH
      obtain ⟨e, f, p5, p6⟩ := Ss hH
      exact ⟨a, b, c, d, e, f, p1, p2, p3, p4, p5, p6⟩
    · refine ⟨[], Kz wide ps w v H, [], Kz wide ps w v H, [], Kz wide ps w v H, ?_, ?_, ?_, ?_, ?_, ?_⟩
      · unfold DQ; rw [JT hn H (by omega), Le, if_pos ha]
      · unfold DP; rw [JC hn, Ax, if_pos ha]
      · unfold Hz; rw [JT hn H (by omega), Le, if_pos ha]
      · unfold Ez; rw [JC hn, Ax, if_pos ha]
      · obtain ⟨R, r1, _⟩ := OI (s := H) (by omega)
        unfold Hj
        rw [values_eq, Ax] at r1 ⊢
        rw [r1, Ax, JT hn H (by omega), Le, if_pos ha]
      · unfold EK; rw [JC hn, Ax, if_pos ha]
  obtain ⟨a, b, c, d, e, f, p1, p2, p3, p4, p5, p6⟩ := parts
  rw [p1, Dt, p2, Dt, if_neg (fun h => h rfl), Om, Ax, decide_eq_true rfl, Ax, if_neg (by decide), p3, Dt, p4, Dt, if_neg (fun h => h rfl), Om, Ax, decide_eq_true rfl, Ax, if_neg (by decide), p5, Dt, p6, Dt, if_pos rfl, Om, Ax, if_pos (decide_eq_true rfl), VY, Ax, if_pos rfl, Om, Ax, if_pos (decide_eq_true rfl)]
end Go.Proofs.YtkfbbjiniapooaaGreat
