/- Lists that are turned round by exchanges; lists of numbers in order; in plain Lean. -/
import Derived.Test.YtfmapnhfamoecaaGreatZLPl
import Derived.Test.YtfmapnhfamoecaaGreatZLTd
namespace Go.Proofs.YtfmapnhfamoecaaGreat.Rv
section
variable {α : Type}
end
def K0 (n : Nat) : Nat → Nat → List (List Nat)
  | 0, _ => [[]]
  | k + 1, f => (List.range' f (n - f)).flatMap fun i => (K0 n k (i + 1)).map (i :: ·)
def Up (n f : Nat) (c : List Nat) : Prop := c.Pairwise (· < ·) ∧ ∀ i ∈ c, f ≤ i ∧ i < n
theorem Up.nil (n f : Nat) : Up n f [] := ⟨List.Pairwise.nil, fun _ h => nomatch h⟩
theorem Up.cons {n f i : Nat} {c : List Nat} : Up n f (i :: c) ↔ (f ≤ i ∧ i < n) ∧ Up n (i + 1) c := by
  constructor
  · intro h
    have h1 := List.pairwise_cons.1 h.1
    exact ⟨h.2 i (List.mem_cons_self ..), h1.2, fun j hj => ⟨h1.1 j hj, (h.2 j (List.mem_cons_of_mem _ hj)).2⟩⟩
  · rintro ⟨h1, h2⟩
    refine ⟨List.pairwise_cons.2 ⟨fun j hj => (h2.2 j hj).1, h2.1⟩, fun j hj => ?_⟩
    rcases List.mem_cons.1 hj with rfl | hj
    · exact h1
    · have := h2.2 j hj
      omega
theorem KB {n : Nat} : ∀ {k f : Nat} {c : List Nat}, c ∈ K0 n k f ↔ c.length = k ∧ Up n f c
  | 0, f, c => by
    unfold K0
    rw [List.mem_singleton]
    constructor
    · rintro rfl; exact ⟨rfl, Up.nil ..⟩
    · rintro ⟨h, _⟩; exact List.eq_nil_of_length_eq_zero h
  | k + 1, f, c => by
    unfold K0
    rw [List.mem_flatMap]
    constructor
    · rintro ⟨i, hi, h⟩
      rw [List.mem_range'] at hi
      rw [List.mem_map] at h
      obtain ⟨j, hj, rfl⟩ := hi
      obtain ⟨t, ht, rfl⟩ := h
      obtain ⟨h1, h2⟩ := KB.1 ht
      exact ⟨by rw [List.length_cons, h1], Up.cons.2 ⟨by omega, h2⟩⟩
    · rintro ⟨h1, h2⟩
      cases c with
      | nil => simp at h1
      | cons i c =>
        obtain ⟨h3, h4⟩ := Up.cons.1 h2
        refine ⟨i, ?_, List.mem_map.2 ⟨c, KB.2 ⟨by simpa using h1, h4⟩, rfl⟩⟩
        rw [List.mem_range']
        exact ⟨i - f, by omega, by omega⟩
def lex : List Nat → List Nat → Prop
  | [], _ => True
  | _ :: _, [] => False
  | a :: s, b :: t => a < b ∨ (a = b ∧ lex s t)
theorem TY : ∀ s : List Nat, lex s s
  | [] => trivial
  | _ :: s => .inr ⟨rfl, TY s⟩
theorem O8 {n : Nat} : ∀ k f : Nat, (K0 n k f).Pairwise lex
  | 0, f => by simp [K0]
  | k + 1, f => by
    unfold K0
    rw [List.pairwise_flatMap]
    refine ⟨fun i _ => ?_, ?_⟩
    · rw [List.pairwise_map]
      exact (O8 k (i + 1)).imp fun h => .inr ⟨rfl, h⟩
    · refine (List.pairwise_lt_range' (s := f) (n := n - f)).imp fun aa x hx y hy => ?_
      rw [List.mem_map] at hx hy
      obtain ⟨_, _, rfl⟩ := hx
      obtain ⟨_, _, rfl⟩ := hy
      exact .inl aa
theorem QQ {α : Type} {R : α → α → Prop} (hr : ∀ x, R x x) {p : α → Bool} : ∀ {l : List α} {x : α}, l.Pairwise R → l.find? p = some x → ∀ y ∈ l, p y = true → R x y
  | [], _, _, h, _, _, _ => nomatch h
  | z :: l, x, hs, h, y, hy, hp => by
    rw [List.find?_cons] at h
    have h1 := List.pairwise_cons.1 hs
    cases hz : p z with
    | true =>
      rw [hz] at h
      obtain rfl := Option.some.inj h
      rcases List.mem_cons.1 hy with rfl | hy
      · exact hr _
      · exact h1.1 y hy
    | false =>
      rw [hz] at h
      rcases List.mem_cons.1 hy with rfl | hy
      · rw [hz] at hp; cases hp
      · exact QQ hr h1.2 h y hy hp
def Lh (n : Nat) (P : List Nat → Bool) : Nat → Nat → Option (List Nat)
  | 0, _ => none
  | fu + 1, k => match (K0 n k 0).find? P with
    | some c => some c
    | none => Lh n P fu (k + 1)
theorem Qf {n : Nat} {P : List Nat → Bool} : ∀ {fu k : Nat}, Lh n P fu k = none → ∀ c, Up n 0 c → k ≤ c.length → c.length < k + fu → P c = false
  | 0, _, _, _, _, _, _ => by omega
  | fu + 1, k, h, c, hc, h1, h2 => by
    unfold Lh at h
    split at h
    · cases h
    · rename_i h3
      by_cases he : c.length = k
      · have := List.find?_eq_none.1 h3 c (KB.2 ⟨he, hc⟩)
        simpa using this
      · exact Qf h c hc (by omega) (by omega)
theorem P4 {n : Nat} {P : List Nat → Bool} : ∀ {fu k : Nat} {d : List Nat}, Lh n P fu k = some d → Up n 0 d ∧ P d = true ∧ k ≤ d.length ∧ ∀ c, Up n 0 c → k ≤ c.length → P c = true → d.length < c.length ∨ (d.length = c.length ∧ lex d c)
  | 0, _, _, h => nomatch h
  | fu + 1, k, d, h => by
    unfold Lh at h
    split at h
    · rename_i e h3
      obtain rfl := Option.some.inj h
      obtain ⟨h4, h5⟩ := KB.1 (List.mem_of_find?_eq_some h3)
      refine ⟨h5, List.find?_some h3, by omega, fun c hc h1 h2 => ?_⟩
      by_cases he : c.length = k
      · exact .inr ⟨by omega, QQ TY (O8 k 0) h3 c (KB.2 ⟨he, hc⟩) h2⟩
      · exact .inl (by omega)
    · rename_i h3
      obtain ⟨h4, h5, h6, h7⟩ := P4 h
      refine ⟨h4, h5, by omega, fun c hc h1 h2 => ?_⟩
      by_cases he : c.length = k
      · have := List.find?_eq_none.1 h3 c (KB.2 ⟨he, hc⟩)
        exact absurd h2 this
      · exact h7 c hc (by omega) h2
theorem Up.len {n : Nat} : ∀ {c : List Nat} {f : Nat}, Up n f c → c.length ≤ n - f
  | [], _, _ => Nat.zero_le _
  | i :: c, f, h => by
    obtain ⟨h1, h2⟩ := Up.cons.1 h
    have := Up.len h2
    rw [List.length_cons]; omega
end Go.Proofs.YtfmapnhfamoecaaGreat.Rv
namespace Go.Proofs.YtfmapnhfamoecaaGreat.Bk
open Go.PL
theorem QO {α β : Type} {a : α} {f : α → Option β} : bv a f = f a := rfl
theorem A9 {x : Int} (h : -1000000000 ≤ x ∧ x ≤ 1000000000) : C9 x := by unfold C9; omega
theorem OO {α : Type} {xs : List α} {i : Nat} {d : α} (h : i < xs.length) : xs[i]? = some (xs.getD i d) := by
  rw [List.getD_eq_getElem?_getD, List.getElem?_eq_getElem h]; rfl
theorem KN {α : Type} {xs : List α} {i : Nat} {d : α} (h : i < xs.length) : xs.getD i d ∈ xs := by
  rw [List.getD_eq_getElem?_getD, List.getElem?_eq_getElem h]; exact List.getElem_mem h
theorem U9 {α β : Type} {xs : List α} {i : Int} (d : α) (f : α → Option β) (h0 : 0 ≤ i) (h : i < (xs.length : Int)) : ix xs i f = f (xs.getD i.toNat d) := Yb h0 (OO (by omega))
theorem YI {α β : Type} {xs : List α} {i : Nat} (d : α) (f : α → Option β) (h : i < xs.length) : ix xs (i : Int) f = f (xs.getD i d) := Yb (by omega) (by rw [Int.toNat_natCast]; exact OO h)
theorem Y5 {β : Type} {xs : List Int} {i : Nat} (f : Int → Option β) (h : i < xs.length) : ix xs (i : Int) f = f (xs.getD i 0) := YI 0 f h
theorem Ee {α : Type} {d : α} {xs : List α} {i t : Nat} {x : α} (h : i < xs.length) : (xs.set i x).getD t d = if i = t then x else xs.getD t d := by
  rw [List.getD_eq_getElem?_getD, List.getD_eq_getElem?_getD, List.getElem?_set]
  by_cases e : i = t
  · subst e; simp [h]
  · simp [e]
theorem drop_cons {α : Type} {xs : List α} {k : Nat} {x : α} {tl : List α} (d : α) (h : xs.drop k = x :: tl) : k < xs.length ∧ xs.getD k d = x ∧ xs.drop (k + 1) = tl := by
  have hk : k < xs.length := by
    rcases Nat.lt_or_ge k xs.length with h1 | h1
    · exact h1
    · rw [List.drop_eq_nil_of_le h1] at h; cases h
  rw [List.drop_eq_getElem_cons hk] at h
  obtain ⟨h1, h2⟩ := List.cons.inj h
  exact ⟨hk, by rw [List.getD_eq_getElem?_getD, List.getElem?_eq_getElem hk, ← h1]; rfl, h2⟩
theorem nn {b : Bool} (h : b = true) : ¬ (!b) = true := by rw [h]; simp
theorem J3 {n : Int} {P : Prop} [Decidable P] (h : 0 ≤ n ↔ P) : (some (decide (0 ≤ n)) : Option Bool) = some (decide P) := by
  congr 1; exact decide_eq_decide.2 h
theorem R9 (x : Int) : 0 ≤ Rq 32 x 65535 ∧ Rq 32 x 65535 ≤ 65535 := by
  unfold Rq
  rw [BitVec.toNat_and]
  have h : (BitVec.ofInt 32 x).toNat &&& (BitVec.ofInt 32 65535).toNat ≤ (BitVec.ofInt 32 65535).toNat := Nat.and_le_right
  have e : (BitVec.ofInt 32 65535).toNat = 65535 := by decide
  rw [e] at h ⊢
  omega
def HS (metal : List Int) (a : Int) : Prop := 0 ≤ a ∧ a ≤ metal.length
section
variable {metal : List Int}
theorem XF {a t : Int} (h : HS metal a) (hm : (metal.length : Int) ≤ 9223372036854775807) : ∃ v a' t', Gi metal a t = some (v, a', t') ∧ (0 ≤ v ∧ v ≤ 65535) ∧ HS metal a' := by
  unfold HS at h ⊢
  unfold Gi
  have e : ∃ b u, (if a = (metal.length : Int) then some ((0 : Int), (t + 1) % 4294967296) else some (a, t)) = some (b, u) ∧ 0 ≤ b ∧ (0 < (metal.length : Int) → b < metal.length) ∧ b ≤ metal.length := by
    by_cases h1 : a = (metal.length : Int)
    · exact ⟨_, _, if_pos h1, by omega, fun h => h, by omega⟩
    · exact ⟨_, _, if_neg h1, by omega, fun _ => by omega, by omega⟩
  obtain ⟨b, u, e1, e2, e3, e4⟩ := e
  rw [e1, DD, QO]
  by_cases h2 : 0 < (metal.length : Int)
  · have h3 := e3 h2
    rw [if_pos h2, Yb (x := metal.getD b.toNat 0) e2 (OO (by omega)), QO, CN (by unfold C9; omega), DD]
    generalize R0 32 _ _ = z
    have hz := R9 z
    rw [CN (A9 (by omega))]
    exact ⟨_, _, _, rfl, hz, by omega, by omega⟩
  · rw [if_neg h2, DD]
    generalize R0 32 _ _ = z
    have hz := R9 z
    rw [CN (A9 (by omega))]
    exact ⟨_, _, _, rfl, hz, by omega, by omega⟩
theorem Ir {a t n : Int} (h : HS metal a) (hm : (metal.length : Int) ≤ 9223372036854775807) (hn : -1000000 ≤ n ∧ n ≤ 1000000) : ∃ v a' t', BT metal a t n = some (v, a', t') ∧ 0 ≤ v ∧ (v ≤ n ∨ v = 0) ∧ HS metal a' := by
  unfold BT
  obtain ⟨v, a', t', h1, h2, h3⟩ := XF (t := t) h hm
  rw [h1, CP, CN (A9 (by omega)), CN (by split <;> omega)]
  refine ⟨_, _, _, rfl, ?_, ?_, h3⟩
  · exact Int.tmod_nonneg _ h2.1
  · have aa : 0 < (if n + 1 > 1 then n + 1 else 1) := by split <;> omega
    rw [Int.tmod_eq_emod_of_nonneg h2.1]
    have ab := Int.emod_lt_of_pos v aa
    have ad := Int.emod_nonneg v (Int.ne_of_gt aa)
    generalize v % (if n + 1 > 1 then n + 1 else 1) = z at ab ad
    split at ab <;> omega
theorem Jc {a t lo hi : Int} (h : HS metal a) (hm : (metal.length : Int) ≤ 9223372036854775807) (hl : -1000 ≤ lo ∧ lo ≤ 1000) (hh : -1000 ≤ hi ∧ hi ≤ 1000) : ∃ v a' t', Cy metal a t lo hi = some (v, a', t') ∧ lo ≤ v ∧ (v ≤ hi ∨ v = lo) ∧ HS metal a' := by
  unfold Cy
  obtain ⟨v, a', t', h1, h2, h3, h4⟩ := Ir (t := t) (n := hi - lo) h hm (by omega)
  rw [CN (A9 (by omega)), h1, CP, CN (A9 (by omega))]
  exact ⟨_, _, _, rfl, by omega, by omega, h4⟩
theorem Vq {a t n : Int} (h : HS metal a) (hm : (metal.length : Int) ≤ 9223372036854775807) (hn : 0 ≤ n ∧ n ≤ 1000) : ∃ v a' t', Fs metal a t n = some (v, a', t') ∧ HS metal a' := by
  unfold Fs
  obtain ⟨v, a', t', h1, h2, h3, h4⟩ := Ir (t := t) (n := n - 1) h hm (by omega)
  rw [CN (A9 (by omega)), h1, CP]
  exact ⟨_, _, _, rfl, h4⟩
end
def Ord (n : Nat) (l : List Int) : Prop := l.length = n ∧ l.Nodup ∧ ∀ x ∈ l, 0 ≤ x ∧ x < (n : Int)
theorem T6 {l : List Int} {i j : Nat} (hi : i < l.length) (hj : j < l.length) (h : l.Nodup) : ((l.set i (l.getD j 0)).set j (l.getD i 0)).Nodup := by
  have gi : l.getD i 0 = l[i] := by rw [List.getD_eq_getElem?_getD, List.getElem?_eq_getElem hi]; rfl
  have gj : l.getD j 0 = l[j] := by rw [List.getD_eq_getElem?_getD, List.getElem?_eq_getElem hj]; rfl
  rw [gi, gj, List.Nodup, List.pairwise_iff_getElem]
  have hp := List.pairwise_iff_getElem.1 h
  have inj : ∀ a b (ha : a < l.length) (hb : b < l.length), l[a] = l[b] → a = b := fun a b ha hb he => by
    rcases Nat.lt_trichotomy a b with h1 | h1 | h1
    · exact absurd he (hp a b ha hb h1)
    · exact h1
    · exact absurd he.symm (hp b a hb ha h1)
  have val : ∀ a (ha : a < ((l.set i l[j]).set j l[i]).length), ∃ b, ∃ hb : b < l.length, ((l.set i l[j]).set j l[i])[a] = l[b] ∧ b = if a = j then i else if a = i then j else a := fun a ha => by
    simp only [List.length_set] at ha
    by_cases h1 : a = j
    · subst h1
      exact ⟨i, hi, by rw [List.getElem_set_self], by rw [if_pos rfl]⟩
    · by_cases h2 : a = i
      · subst h2
        exact ⟨j, hj, by rw [List.getElem_set_ne (fun e => h1 e.symm), List.getElem_set_self], by rw [if_neg h1, if_pos rfl]⟩
      · exact ⟨a, ha, by rw [List.getElem_set_ne (fun e => h1 e.symm), List.getElem_set_ne (fun e => h2 e.symm)], by rw [if_neg h1, if_neg h2]⟩
  intro a b ha hb ad he
  obtain ⟨a', aa, e1, e2⟩ := val a ha
  obtain ⟨b', ab, e3, e4⟩ := val b hb
  have := inj a' b' aa ab (by rw [← e1, ← e3]; exact he)
  rw [e2, e4] at this
  repeat (first | omega | split at this)
theorem W5 {l : List Int} {i j : Nat} (hi : i < l.length) (hj : j < l.length) {x : Int} (h : x ∈ (l.set i (l.getD j 0)).set j (l.getD i 0)) : x ∈ l := by
  have gi : l.getD i 0 ∈ l := by rw [List.getD_eq_getElem?_getD, List.getElem?_eq_getElem hi]; exact List.getElem_mem _
  have gj : l.getD j 0 ∈ l := by rw [List.getD_eq_getElem?_getD, List.getElem?_eq_getElem hj]; exact List.getElem_mem _
  rcases List.mem_or_eq_of_mem_set h with h | rfl
  · rcases List.mem_or_eq_of_mem_set h with h | rfl
    · exact h
    · exact gj
  · exact gi
section
variable {metal : List Int}
theorem UU (hm : (metal.length : Int) ≤ 9223372036854775807) : ∀ (fu k : Nat) (a t : Int) (out : List Int), HS metal a → Ord k out → k + fu ≤ 100000 → ∃ r a' t', CY metal fu (k : Int) a t out = some (r, a', t') ∧ Ord (k + fu) r ∧ HS metal a'
  | 0, k, a, t, out, ha, ho, _ => ⟨out, a, t, rfl, ho, ha⟩
  | fu + 1, k, a, t, out, ha, ho, hk => by
    obtain ⟨h1, h2, h3⟩ := ho
    obtain ⟨n, a1, t1, e1, g1, g2, g3⟩ := Ir (t := t) (n := (k : Int)) ha hm (by omega)
    obtain ⟨n, rfl⟩ := Int.eq_ofNat_of_zero_le g1
    have hn : n ≤ k := by omega
    have hl : (out ++ [(k : Int)]).length = k + 1 := by simp [h1]
    have ab : (out ++ [(k : Int)]).Nodup := by
      rw [List.nodup_append]
      refine ⟨h2, by simp, fun x hx y hy he => ?_⟩
      rw [List.mem_singleton] at hy
      have := h3 x hx
      omega
    have aa : ∀ x ∈ out ++ [(k : Int)], 0 ≤ x ∧ x < ((k + 1 : Nat) : Int) := fun x hx => by
      rcases List.mem_append.1 hx with h | h
      · have := h3 x h; omega
      · rw [List.mem_singleton] at h; omega
    have hO : Ord (k + 1) (((out ++ [(k : Int)]).set n ((out ++ [(k : Int)]).getD k 0)).set k ((out ++ [(k : Int)]).getD n 0)) :=
      ⟨by simp [h1], T6 (by omega) (by omega) ab, fun x hx => aa x (W5 (by omega) (by omega) hx)⟩
    obtain ⟨r, a2, t2, q1, q2, q3⟩ := UU hm fu (k + 1) a1 t1 _ g3 hO (by omega)
    refine ⟨r, a2, t2, ?_, by rw [show k + (fu + 1) = k + 1 + fu by omega]; exact q2, q3⟩
    unfold CY
    rw [e1, CP, Kv (by omega), Y5 _ (by omega), Y5 _ (by omega), QO, Int.toNat_natCast, Y5 _ (by rw [List.length_set]; omega), QO, Int.toNat_natCast, show (k : Int) + 1 = ((k + 1 : Nat) : Int) by omega]
    exact q1
theorem Xh (hm : (metal.length : Int) ≤ 9223372036854775807) {a t : Int} (ha : 0 ≤ a ∧ a ≤ metal.length) {n : Nat} (hn : n ≤ 1000) : ∃ r a' t', Gk metal a t (n : Int) = some (r, a', t') ∧ Ord n r ∧ HS metal a' := by
  obtain ⟨r, a', t', h1, h2, h3⟩ := UU hm n 0 a t [] ha ⟨rfl, List.nodup_nil, fun _ h => nomatch h⟩ (by omega)
  rw [Nat.zero_add] at h2
  refine ⟨r, a', t', ?_, h2, h3⟩
  have e : (if (n : Int) > 0 then (n : Int) else 0) = (n : Int) := by split <;> omega
  have aa : CY metal n 0 a t [] = some (r, a', t') := h1
  unfold Gk
  rw [e, CN ⟨A9 (by omega), A9 (by omega)⟩, show Int.toNat ((n : Int) - 0) = n by omega, aa, CP]
end
theorem N4 (n lo hi : Int) : HV n lo hi = some (decide (lo ≤ n ∧ n ≤ hi)) := by
  unfold HV
  by_cases h : lo ≤ n
  · rw [if_pos h]; simp [h]
  · rw [if_neg h]; simp [h]
theorem Tv (v : Int) : ∀ (l : List Int) (k : Int), 0 ≤ k → ∃ n, CM v l k = some n ∧ (0 ≤ n ↔ v ∈ l)
  | [], k, _ => ⟨-1, rfl, by simp⟩
  | x :: l, k, hk => by
    unfold CM
    by_cases h : v = x
    · exact ⟨k, if_pos h, by simp [h, hk]⟩
    · obtain ⟨n, h1, h2⟩ := Tv v l (k + 1) (by omega)
      exact ⟨n, by rw [if_neg h]; exact h1, by rw [h2]; simp [h]⟩
theorem contains_eq (l : List Int) (v : Int) : Bu l v = some (decide (v ∈ l)) := by
  unfold Bu Gr
  obtain ⟨n, h1, h2⟩ := Tv v l 0 (Int.le_refl _)
  rw [h1, AJ]
  exact J3 h2
theorem Nl {f : Int → Option Bool} {g : Int → Bool} : ∀ (l : List (Int)) (k : Int), 0 ≤ k → (∀ x ∈ l, f x = some (g x)) → ∃ n, Cc f l k = some n ∧ (0 ≤ n ↔ l.any g = true)
  | [], k, _, _ => ⟨-1, rfl, by simp⟩
  | x :: l, k, hk, h => by
    unfold Cc
    rw [h x (by simp), AJ]
    by_cases hx : g x = true
    · exact ⟨k, by rw [if_pos hx], by simp [hx, hk]⟩
    · obtain ⟨n, h1, h2⟩ := Nl l (k + 1) (by omega) (fun y hy => h y (by simp [hy]))
      exact ⟨n, by rw [if_neg hx]; exact h1, by rw [h2]; simp [hx]⟩
theorem Qb {f : Int → Option Bool} {g : Int → Bool} {l : List (Int)} (h : ∀ x ∈ l, f x = some (g x)) : CC l f = some (l.any g) := by
  unfold CC EC
  obtain ⟨n, h1, h2⟩ := Nl l 0 (Int.le_refl _) h
  rw [h1, AJ, J3 h2, Bool.decide_eq_true]
theorem MJ {f : List (List Int) → Option Bool} {g : List (List Int) → Bool} : ∀ (l : List (List (List Int))) (k : Int), 0 ≤ k → (∀ x ∈ l, f x = some (g x)) → ∃ n, B6 f l k = some n ∧ (0 ≤ n ↔ l.any g = true)
  | [], k, _, _ => ⟨-1, rfl, by simp⟩
  | x :: l, k, hk, h => by
    unfold B6
    rw [h x (by simp), AJ]
    by_cases hx : g x = true
    · exact ⟨k, by rw [if_pos hx], by simp [hx, hk]⟩
    · obtain ⟨n, h1, h2⟩ := MJ l (k + 1) (by omega) (fun y hy => h y (by simp [hy]))
      exact ⟨n, by rw [if_neg hx]; exact h1, by rw [h2]; simp [hx]⟩
theorem SW {f : List (List Int) → Option Bool} {g : List (List Int) → Bool} {l : List (List (List Int))} (h : ∀ x ∈ l, f x = some (g x)) : CX l f = some (l.any g) := by
  unfold CX Er
  obtain ⟨n, h1, h2⟩ := MJ l 0 (Int.le_refl _) h
  rw [h1, AJ, J3 h2, Bool.decide_eq_true]
theorem Rk {f : Int → Option Bool} {g : Int → Bool} {l : List Int} (h : ∀ x ∈ l, f x = some (g x)) : FN l f = some (l.all g) := by
  unfold FN
  rw [Qb (g := fun x => !g x) (fun x hx => by unfold GL; rw [h x hx, AJ]), AJ]
  simp [List.all_eq_not_any_not]
theorem VM {f : List (List Int) → Option Bool} {g : List (List Int) → Bool} {l : List (List (List Int))} (h : ∀ x ∈ l, f x = some (g x)) : Hu l f = some (l.all g) := by
  unfold Hu
  rw [SW (g := fun x => !g x) (fun x hx => by unfold Ge; rw [h x hx, AJ]), AJ]
  simp [List.all_eq_not_any_not]
theorem Rn {f : (Int × Int × Int) → Option Bool} {g : (Int × Int × Int) → Bool} : ∀ (l : List (Int × Int × Int)) (k : Int), 0 ≤ k → (∀ x ∈ l, f x = some (g x)) → ∃ n, BE f l k = some n ∧ (0 ≤ n ↔ l.any g = true)
  | [], k, _, _ => ⟨-1, rfl, by simp⟩
  | x :: l, k, hk, h => by
    unfold BE
    rw [show (x.1, x.2.1, x.2.2) = x from rfl, h x (by simp), AJ]
    by_cases hx : g x = true
    · exact ⟨k, by rw [if_pos hx], by simp [hx, hk]⟩
    · obtain ⟨n, h1, h2⟩ := Rn l (k + 1) (by omega) (fun y hy => h y (by simp [hy]))
      exact ⟨n, by rw [if_neg hx]; exact h1, by rw [h2]; simp [hx]⟩
theorem Xn {f : (Int × Int × Int) → Option Bool} {g : (Int × Int × Int) → Bool} {l : List (Int × Int × Int)} (h : ∀ x ∈ l, f x = some (g x)) : Ca l f = some (l.any g) := by
  unfold Ca C6
  obtain ⟨n, h1, h2⟩ := Rn l 0 (Int.le_refl _) h
  rw [h1, AJ, J3 h2, Bool.decide_eq_true]
theorem VI {f : (Int × Int × Int) → Option Bool} {g : (Int × Int × Int) → Bool} {l : List (Int × Int × Int)} (h : ∀ x ∈ l, f x = some (g x)) : Ib l f = some (l.all g) := by
  unfold Ib
  rw [Xn (g := fun x => !g x) (fun x hx => by unfold GK; rw [show (x.1, x.2.1, x.2.2) = x from rfl, h x hx, AJ]), AJ]
  simp [List.all_eq_not_any_not]
theorem Rz {f : (List Bool × List Int) → Option Bool} {g : (List Bool × List Int) → Bool} : ∀ (l : List (List Bool × List Int)) (k : Int), 0 ≤ k → (∀ x ∈ l, f x = some (g x)) → ∃ n, Bs f l k = some n ∧ (0 ≤ n ↔ l.any g = true)
  | [], k, _, _ => ⟨-1, rfl, by simp⟩
  | x :: l, k, hk, h => by
    unfold Bs
    rw [show (x.1, x.2) = x from rfl, h x (by simp), AJ]
    by_cases hx : g x = true
    · exact ⟨k, by rw [if_pos hx], by simp [hx, hk]⟩
    · obtain ⟨n, h1, h2⟩ := Rz l (k + 1) (by omega) (fun y hy => h y (by simp [hy]))
      exact ⟨n, by rw [if_neg hx]; exact h1, by rw [h2]; simp [hx]⟩
theorem XH {f : (List Bool × List Int) → Option Bool} {g : (List Bool × List Int) → Bool} {l : List (List Bool × List Int)} (h : ∀ x ∈ l, f x = some (g x)) : BA l f = some (l.any g) := by
  unfold BA Cu
  obtain ⟨n, h1, h2⟩ := Rz l 0 (Int.le_refl _) h
  rw [h1, AJ, J3 h2, Bool.decide_eq_true]
theorem Q6 {l : List Int} (h : l.length ≤ 1000000) : CZ l = some l := by
  unfold CZ Qe
  by_cases e : l = []
  · subst e
    rw [if_pos rfl, Kv (by simp)]; rfl
  · rw [if_neg e, Kv (by simpa using by omega)]; rfl
theorem VD {l : List (Int × Int × Int)} (h : l.length ≤ 1000000) : BZ l = some l := by
  unfold BZ Qe
  by_cases e : l = []
  · subst e
    rw [if_pos rfl, Kv (by simp)]; rfl
  · rw [if_neg e, Kv (by simpa using by omega)]; rfl
theorem Vf {α : Type} (z : α) (l : List α) : YY (List.replicate ((l.length : Int)).toNat z) l = l := by
  unfold YY
  rw [Int.toNat_natCast, List.length_replicate, List.take_length, List.drop_eq_nil_of_le (by simp), List.append_nil]
theorem copy_eq {l : List Int} (h : l.length ≤ 1000000) : FC l = some l := by
  unfold FC
  rw [CN (by omega), QO, QO, Vf]
theorem Wm {l : List (Int × Int × Int)} (h : l.length ≤ 1000000) : GY l = some l := by
  unfold GY
  rw [CN (by omega), QO, QO, Vf]
theorem Vc {α : Type} (l : List α) (n : Int) : sl l 0 n = l.take n.toNat := by unfold sl; simp
structure Jg (n n2 : Int) (hs : List (List (List Int))) (rs : List Int) (cs : List (Int × Int × Int)) : Prop where
  hn : 1 ≤ n ∧ n ≤ 6
  MM : 1 ≤ n2 ∧ n2 ≤ 4
  hh : 1 ≤ hs.length ∧ hs.length ≤ 4
  hr : 1 ≤ rs.length ∧ rs.length ≤ 8
  hc : cs.length ≤ 12
  h8 : ∀ w ∈ hs, w.length = 8
  hl : ∀ w ∈ hs, ∀ l ∈ w, l.Nodup ∧ ∀ x ∈ l, 0 ≤ x ∧ x < n
  rr : ∀ r ∈ rs, -1 ≤ r ∧ r ≤ 7
  cc : ∀ c ∈ cs, (0 ≤ c.1 ∧ c.1 < (rs.length : Int)) ∧ (0 ≤ c.2.1 ∧ c.2.1 < (hs.length : Int)) ∧ (0 ≤ c.2.2 ∧ c.2.2 < n2)
section
variable {n n2 : Int} {hs : List (List (List Int))} {rs : List Int} {cs : List (Int × Int × Int)}
theorem Ts (h : Jg n n2 hs rs cs) (x : Int) : Gc n n2 hs rs cs x = some (decide (0 ≤ x ∧ x < n)) := by
  unfold Gc
  have := h.hn
  rw [CN (A9 (by omega)), N4, AJ]
  congr 1; exact decide_eq_decide.2 (by omega)
theorem Pw (h : Jg n n2 hs rs cs) (x : Int) : EG n n2 hs rs cs x = some (decide (0 ≤ x ∧ x < n2)) := by
  unfold EG
  have := h.MM
  rw [CN (A9 (by omega)), N4, AJ]
  congr 1; exact decide_eq_decide.2 (by omega)
theorem Va (h : Jg n n2 hs rs cs) (x : Int) : GP n n2 hs rs cs x = some (decide (0 ≤ x ∧ x < (rs.length : Int))) := by
  unfold GP
  have := h.hr
  rw [CN (A9 (by omega)), N4, AJ]
  congr 1; exact decide_eq_decide.2 (by omega)
theorem R4 (h : Jg n n2 hs rs cs) {l : List Int} (hd : l.Nodup) (hx : ∀ x ∈ l, 0 ≤ x ∧ x < n) (hl : l.length ≤ 1000000) : ∀ (tl : List Int) (k : Nat), l.drop k = tl → DP n n2 hs rs cs l tl (k : Int) = some 0
  | [], _, _ => rfl
  | x :: tl, k, he => by
    obtain ⟨hk, h1, h2⟩ := drop_cons 0 he
    have hm : x ∈ l := by rw [← h1]; exact KN hk
    unfold DP
    have aa : x ∉ l.take k := fun ab => by
      rw [← List.take_append_drop k l, he, List.nodup_append] at hd
      exact hd.2.2 x ab x (List.mem_cons_self ..) rfl
    rw [Ts h, AJ, decide_eq_true (hx x hm), if_neg (by decide), CN ⟨⟨by omega, by omega⟩, by omega⟩, QO, Vc, Int.toNat_natCast, contains_eq, AJ, decide_eq_false aa, if_neg (by decide), show (k : Int) + 1 = ((k + 1 : Nat) : Int) by omega]
    exact R4 h hd hx hl tl (k + 1) h2
theorem RZ {l : List Int} {n : Int} (h : l.Nodup) (hx : ∀ x ∈ l, 0 ≤ x ∧ x < n) : (l.length : Int) ≤ max n 0 := by
  have key : ∀ (m : Nat) (l : List Int), l.Nodup → (∀ x ∈ l, 0 ≤ x ∧ x < (m : Int)) → l.length ≤ m := fun m => by
    induction m with
    | zero => intro l _ hx; cases l with
      | nil => simp
      | cons a l => have := hx a (by simp); omega
    | succ m ih =>
      intro l hd hx
      have h1 := ih (l.filter (· ≠ (m : Int))) (hd.filter _) (fun x hm => by
        rw [List.mem_filter] at hm
        have h2 := hx x hm.1
        have h3 : x ≠ (m : Int) := by simpa using hm.2
        omega)
      have h2 : l.length ≤ (l.filter (· ≠ (m : Int))).length + 1 := by
        have h3 : l.length = (l.filter (· ≠ (m : Int))).length + (l.filter (fun a => decide ¬decide (a ≠ (m : Int)) = true)).length := by
          rw [← List.countP_eq_length_filter, ← List.countP_eq_length_filter]
          exact List.length_eq_countP_add_countP _
        have h4 : (l.filter (fun a => decide ¬decide (a ≠ (m : Int)) = true)).length ≤ 1 := by
          have h5 : (l.filter (fun a => decide ¬decide (a ≠ (m : Int)) = true)).Nodup := hd.filter _
          have h6 : ∀ x ∈ l.filter (fun a => decide ¬decide (a ≠ (m : Int)) = true), x = (m : Int) := fun x hx => by simpa using (List.mem_filter.1 hx).2
          generalize l.filter (fun a => decide ¬decide (a ≠ (m : Int)) = true) = q at h5 h6
          match q with
          | [] => simp
          | [_] => simp
          | a :: b :: q =>
            have ha := h6 a (by simp); have hb := h6 b (by simp)
            rw [List.nodup_cons] at h5
            exact absurd (by rw [ha, hb]; simp) h5.1
        omega
      omega
  have := key n.toNat l h (fun x hm => by have := hx x hm; omega)
  omega
theorem R7 (h : Jg n n2 hs rs cs) {l : List Int} (hd : l.Nodup) (hx : ∀ x ∈ l, 0 ≤ x ∧ x < n) : GU n n2 hs rs cs l = some 0 := by
  have := RZ hd hx
  have := h.hn
  exact R4 h hd hx (by omega) l 0 rfl
theorem TZ (h : Jg n n2 hs rs cs) {aa : Option Int} : ∀ (w : List (List Int)), (∀ l ∈ w, l.Nodup ∧ ∀ x ∈ l, 0 ≤ x ∧ x < n) → Gv n n2 hs rs cs aa w = aa
  | [], _ => rfl
  | l :: w, hw => by
    unfold Gv
    have h1 := hw l (by simp)
    rw [R7 h h1.1 h1.2, AJ, if_neg (by decide)]
    exact TZ h w fun l hl => hw l (by simp [hl])
theorem Xv (x : Int) : KD x = some (decide (-1 ≤ x ∧ x ≤ 7)) := by
  unfold KD
  by_cases e : x = -1
  · rw [if_pos e, e]; rfl
  · rw [if_neg e, N4, AJ]; congr 1; exact decide_eq_decide.2 (by omega)
theorem Tu (h : Jg n n2 hs rs cs) : ∀ (l : List (List (List Int))), (∀ w ∈ l, ∀ l ∈ w, l.Nodup ∧ ∀ x ∈ l, 0 ≤ x ∧ x < n) → Ek n n2 hs rs cs l = some 0
  | [], _ => by
    unfold Ek JZ
    rw [Rk (g := fun x => decide (-1 ≤ x ∧ x ≤ 7)) (fun x _ => Xv x), AJ]
    have h1 : rs.all (fun x => decide (-1 ≤ x ∧ x ≤ 7)) = true := by
      rw [List.all_eq_true]; exact fun x hx => decide_eq_true (h.rr x hx)
    rw [h1, if_neg (by decide), VI (g := fun _ => true) (fun c hc => ?_), AJ]
    · rw [show cs.all (fun _ => true) = true by rw [List.all_eq_true]; exact fun _ _ => rfl, if_neg (by decide)]
    · obtain ⟨h1, h2, h3⟩ := h.cc c hc
      have := h.hh
      unfold Jj
      rw [Va h, AJ, decide_eq_true h1, if_pos rfl, CN (A9 (by omega)), N4, AJ, decide_eq_true (by omega), if_pos rfl, Pw h, AJ, decide_eq_true h3]
  | w :: l, hw => by
    unfold Ek
    rw [TZ h w (hw w (by simp))]
    exact Tu h l fun w hm => hw w (by simp [hm])
theorem Q3 (h : Jg n n2 hs rs cs) : I0 n n2 hs rs cs = some 0 := by
  unfold I0 HR
  have h1 := h.hn; have h2 := h.MM; have h3 := h.hh; have h4 := h.hr; have h5 := h.hc
  rw [N4, AJ, decide_eq_true h1, if_pos rfl, N4, AJ, decide_eq_true h2, if_pos rfl, N4, AJ, decide_eq_true (by omega), if_pos rfl, N4, AJ, decide_eq_true (by omega), if_pos rfl, if_pos (by omega), VM (g := fun _ => true) (fun w hw => ?_), AJ, AJ]
  · rw [show hs.all (fun _ => true) = true by rw [List.all_eq_true]; exact fun _ _ => rfl, if_neg (by decide)]
    exact Tu h hs h.hl
  · unfold Fq
    rw [h.h8 w hw]; rfl
theorem R5 (h : Jg n n2 hs rs cs) : I9 n n2 hs rs cs = some (some (n, n2, hs, rs, cs), 0) := by
  unfold I9
  rw [Q3 h, AJ, if_neg (by decide)]
end
def Jd (a b : Int) : Bool := decide (a = b ∨ a = b + 1 ∨ b = a + 1 ∨ (a = 0 ∧ b = 7) ∨ (a = 7 ∧ b = 0))
def W8 : List Int := [0, 1, 2, 3, 4, 5, 6, 7]
theorem Ol {w : Int} : w ∈ W8 ↔ 0 ≤ w ∧ w ≤ 7 := by
  unfold W8; simp only [List.mem_cons, List.not_mem_nil, or_false]; omega
theorem WW : (W8.all fun a => W8.all fun b => decide (KC a b = some (Jd a b))) = true := by decide +kernel
theorem Xs {a b : Int} (ha : 0 ≤ a ∧ a ≤ 7) (hb : 0 ≤ b ∧ b ≤ 7) : KC a b = some (Jd a b) :=
  of_decide_eq_true (List.all_eq_true.1 (List.all_eq_true.1 WW a (Ol.2 ha)) b (Ol.2 hb))
def LQ (w : Int) : List Int := W8.filter fun v => Jd v w
theorem Uq : (W8.all fun w => decide (J9 w = some (LQ w))) = true := by decide +kernel
theorem VU {w : Int} (h : 0 ≤ w ∧ w ≤ 7) : J9 w = some (LQ w) := of_decide_eq_true (List.all_eq_true.1 Uq w (Ol.2 h))
theorem PC {v w : Int} : v ∈ LQ w ↔ (0 ≤ v ∧ v ≤ 7) ∧ Jd v w = true := by unfold LQ; rw [List.mem_filter, Ol]
theorem PH (a b : Int) : Jd a b = Jd b a := by unfold Jd; exact decide_eq_decide.2 (by omega)
theorem RK : (W8.all fun w => decide ((LQ w).length = 3)) = true := by decide
theorem VO {w : Int} (h : 0 ≤ w ∧ w ≤ 7) : (LQ w).length = 3 := of_decide_eq_true (List.all_eq_true.1 RK w (Ol.2 h))
def Ic (r w : Int) : Bool := decide (r = -1) || Jd w r
theorem YN {n n2 : Int} {hs : List (List (List Int))} {rs : List Int} {cs : List (Int × Int × Int)} (hr : ∀ r ∈ rs, -1 ≤ r ∧ r ≤ 7) {k w : Int} (h0 : 0 ≤ k) (h1 : k < (rs.length : Int)) (hw : 0 ≤ w ∧ w ≤ 7) : Dy n n2 hs rs cs k w = some (Ic (rs.getD k.toNat 0) w) := by
  unfold Dy
  rw [U9 0 _ h0 h1]
  have hm := hr _ (KN (d := 0) (show k.toNat < rs.length by omega))
  generalize rs.getD k.toNat 0 = r at hm
  unfold Ic
  by_cases e : r = -1
  · rw [if_pos e]; simp [e]
  · rw [if_neg e, Xs hw (by omega), AJ]; simp [e]
end Go.Proofs.YtfmapnhfamoecaaGreat.Bk
namespace Go.Proofs.YtfmapnhfamoecaaGreat.Bk
open Go.PL
def Ej : Option Int → List Int → List Int → Prop
  | _, [], [] => True
  | p, r :: rs, w :: c => (0 ≤ w ∧ w ≤ 7) ∧ Ic r w = true ∧ (∀ v, p = some v → Jd w v = true) ∧ Ej (some w) rs c
  | _, _, _ => False
def RV : Option Int → List Int → Option Int
  | p, [] => p
  | _, w :: c => RV (some w) c
theorem Ej.len : ∀ {p : Option Int} {rs c : List Int}, Ej p rs c → c.length = rs.length
  | _, [], [], _ => rfl
  | _, _ :: _, _ :: _, h => by rw [List.length_cons, List.length_cons, Ej.len h.2.2.2]
  | _, [], _ :: _, h => h.elim
  | _, _ :: _, [], h => h.elim
theorem Ej.T3 : ∀ {p : Option Int} {rs c : List Int}, Ej p rs c → ∀ w ∈ c, 0 ≤ w ∧ w ≤ 7
  | _, [], [], _ => fun _ h => nomatch h
  | _, _ :: _, w :: c, h => fun x hx => by
    rcases List.mem_cons.1 hx with rfl | hx
    · exact h.1
    · exact Ej.T3 h.2.2.2 x hx
  | _, [], _ :: _, h => h.elim
  | _, _ :: _, [], h => h.elim
theorem Ej.snoc {r w : Int} (h1 : 0 ≤ w ∧ w ≤ 7) (h2 : Ic r w = true) : ∀ {p : Option Int} {rs c : List Int}, Ej p rs c → (∀ v, RV p c = some v → Jd w v = true) → Ej p (rs ++ [r]) (c ++ [w])
  | _, [], [], _, h3 => ⟨h1, h2, h3, trivial⟩
  | _, _ :: _, _ :: _, h, h3 => ⟨h.1, h.2.1, h.2.2.1, Ej.snoc h1 h2 h.2.2.2 h3⟩
  | _, [], _ :: _, h, _ => h.elim
  | _, _ :: _, [], h, _ => h.elim
theorem Ej.WK {r : Int} : ∀ {p : Option Int} {rs c : List Int}, Ej p (rs ++ [r]) c → ∃ c' w, c = c' ++ [w] ∧ Ej p rs c' ∧ (0 ≤ w ∧ w ≤ 7) ∧ Ic r w = true ∧ ∀ v, RV p c' = some v → Jd w v = true
  | _, [], w :: c, h => by
    obtain ⟨h1, h2, h3, h4⟩ := h
    cases c with
    | nil => exact ⟨[], w, rfl, trivial, h1, h2, h3⟩
    | cons a c => exact h4.elim
  | _, [], [], h => h.elim
  | _, _ :: rs, w :: c, h => by
    obtain ⟨h1, h2, h3, h4⟩ := h
    obtain ⟨c', x, rfl, g1, g2, g3, g4⟩ := Ej.WK h4
    exact ⟨w :: c', x, rfl, ⟨h1, h2, h3, g1⟩, g2, g3, g4⟩
  | _, _ :: _, [], h => h.elim
theorem NA (w : Int) : ∀ (p : Option Int) (c : List Int), RV p (c ++ [w]) = some w
  | _, [] => rfl
  | _, a :: c => NA w (some a) c
def cell (hs : List (List (List Int))) (s w : Int) : List Int := (hs.getD s.toNat []).getD w.toNat []
def Sf (k : Int) (l : List Int) (g : List Bool) : List Bool := l.foldl (fun g h => g.set (h * 4 + k).toNat true) g
def Hz (hs : List (List (List Int))) (cs : List (Int × Int × Int)) (g : List Bool) (hour Cf : Int) : List Bool := cs.foldl (fun g c => if c.1 = hour then Sf c.2.2 (cell hs c.2.1 Cf) g else g) g
theorem RA (k : Int) : ∀ (l : List Int) (g : List Bool), (Sf k l g).length = g.length
  | [], _ => rfl
  | a :: l, g => by
    show (Sf k l (g.set (a * 4 + k).toNat true)).length = g.length
    rw [RA k l, List.length_set]
theorem S7 {k h q : Int} (hk : 0 ≤ k ∧ k < 4) (hq : 0 ≤ q ∧ q < 4) (hh : 0 ≤ h ∧ h < 6) : ∀ (l : List Int) (g : List Bool), (∀ x ∈ l, 0 ≤ x ∧ x < 6) → g.length = 24 → (Sf k l g).getD (h * 4 + q).toNat false = (g.getD (h * 4 + q).toNat false || (decide (k = q) && decide (h ∈ l)))
  | [], _, _, _ => by simp [Sf]
  | a :: l, g, hl, hg => by
    have ha := hl a (by simp)
    show (Sf k l (g.set (a * 4 + k).toNat true)).getD (h * 4 + q).toNat false = _
    rw [S7 hk hq hh l _ (fun x hx => hl x (by simp [hx])) (by rw [List.length_set]; exact hg), Ee (by omega)]
    by_cases e : (a * 4 + k).toNat = (h * 4 + q).toNat
    · have e1 : a = h := by omega
      have e2 : k = q := by omega
      rw [if_pos e, e1, e2]; simp
    · rw [if_neg e]
      by_cases e2 : k = q
      · have e3 : ¬ h = a := by omega
        simp [e2, e3]
      · simp [e2]
section
variable {n n2 : Int} {hs : List (List (List Int))} {rs : List Int} {cs : List (Int × Int × Int)}
theorem UX (x : Int × Int × Int) (hx : 0 ≤ x.2.2 ∧ x.2.2 < 4) : ∀ (l : List Int) (g : List Bool), (∀ y ∈ l, 0 ≤ y ∧ y < 6) → g.length = 24 → Et x l g = some (Sf x.2.2 l g)
  | [], _, _, _ => rfl
  | a :: l, g, hl, hg => by
    have ha := hl a (by simp)
    unfold Et
    rw [CN ha, CN hx, U9 false _ (by omega) (by omega), QO]
    exact UX x hx l _ (fun y hy => hl y (by simp [hy])) (by rw [List.length_set]; exact hg)
theorem S9 (h : Jg n n2 hs rs cs) {s w : Int} (h0 : 0 ≤ s ∧ s < (hs.length : Int)) (hw : 0 ≤ w ∧ w ≤ 7) : (hs.getD s.toNat []) ∈ hs ∧ (hs.getD s.toNat []).length = 8 ∧ cell hs s w ∈ hs.getD s.toNat [] := by
  have h1 : hs.getD s.toNat [] ∈ hs := KN (by omega)
  have h2 := h.h8 _ h1
  exact ⟨h1, h2, KN (by omega)⟩
theorem Tm (h : Jg n n2 hs rs cs) {s w : Int} (h0 : 0 ≤ s ∧ s < (hs.length : Int)) (hw : 0 ≤ w ∧ w ≤ 7) : (cell hs s w).Nodup ∧ ∀ x ∈ cell hs s w, 0 ≤ x ∧ x < n := by
  obtain ⟨h1, _, h3⟩ := S9 h h0 hw
  exact h.hl _ h1 _ h3
theorem SE (h : Jg n n2 hs rs cs) (hour : Int) {Cf : Int} (hw : 0 ≤ Cf ∧ Cf ≤ 7) : ∀ (l : List (Int × Int × Int)) (g : List Bool), (∀ c ∈ l, c ∈ cs) → g.length = 24 → Ev hs hour Cf l g = some (Hz hs l g hour Cf) ∧ (Hz hs l g hour Cf).length = 24
  | [], _, _, hg => ⟨rfl, hg⟩
  | c :: l, g, hl, hg => by
    have hc := h.cc c (hl c (by simp))
    have h2 := h.MM; have h1 := h.hn
    have e : Hz hs (c :: l) g hour Cf = Hz hs l (if c.1 = hour then Sf c.2.2 (cell hs c.2.1 Cf) g else g) hour Cf := rfl
    unfold Ev
    by_cases e1 : c.1 = hour
    · obtain ⟨g1, g2, g3⟩ := S9 h hc.2.1 hw
      rw [e, if_pos e1, if_neg (by simp [e1]), U9 [] _ hc.2.1.1 hc.2.1.2, U9 [] _ hw.1 (by omega), UX c (by omega) _ g (fun y hy => by have := (Tm h hc.2.1 hw).2 y hy; omega) hg, AJ]
      exact SE h hour hw l _ (fun x hx => hl x (by simp [hx])) (by rw [RA]; exact hg)
    · rw [e, if_neg e1, if_pos (by simpa using e1), AJ]
      exact SE h hour hw l _ (fun x hx => hl x (by simp [hx])) hg
theorem QC (h : Jg n n2 hs rs cs) (hour : Int) {Cf : Int} (hw : 0 ≤ Cf ∧ Cf ≤ 7) {g : List Bool} (hg : g.length = 24) : GZ n n2 hs rs cs g hour Cf = some (Hz hs cs g hour Cf) ∧ (Hz hs cs g hour Cf).length = 24 := by
  obtain ⟨h1, h2⟩ := SE h hour hw cs g (fun _ h => h) hg
  refine ⟨?_, h2⟩
  unfold GZ
  rw [h1, AJ]
theorem PM (h : Jg n n2 hs rs cs) (hour : Int) {Cf x q : Int} (hw : 0 ≤ Cf ∧ Cf ≤ 7) (hx : 0 ≤ x ∧ x < 6) (hq : 0 ≤ q ∧ q < 4) : ∀ (l : List (Int × Int × Int)) (g : List Bool), (∀ c ∈ l, c ∈ cs) → g.length = 24 →
    (Hz hs l g hour Cf).getD (x * 4 + q).toNat false = (g.getD (x * 4 + q).toNat false || l.any fun c => decide (c.1 = hour) && (decide (c.2.2 = q) && decide (x ∈ cell hs c.2.1 Cf)))
  | [], _, _, _ => by simp [Hz]
  | c :: l, g, hl, hg => by
    have hc := h.cc c (hl c (by simp))
    have h2 := h.MM; have h1 := h.hn
    have e : Hz hs (c :: l) g hour Cf = Hz hs l (if c.1 = hour then Sf c.2.2 (cell hs c.2.1 Cf) g else g) hour Cf := rfl
    rw [e]
    by_cases e1 : c.1 = hour
    · rw [if_pos e1, PM h hour hw hx hq l _ (fun x hx => hl x (by simp [hx])) (by rw [RA]; exact hg), S7 (by omega) hq hx _ _ (fun y hy => by have := (Tm h hc.2.1 hw).2 y hy; omega) hg]
      simp [e1, Bool.or_assoc]
    · rw [if_neg e1, PM h hour hw hx hq l _ (fun x hx => hl x (by simp [hx])) hg]
      simp [e1]
def Fj (hs : List (List (List Int))) (cs : List (Int × Int × Int)) : Int → List Int → List Bool → List Bool
  | _, [], g => g
  | k, w :: c, g => Fj hs cs (k + 1) c (Hz hs cs g k w)
def Gf : List Bool := List.replicate 24 false
theorem Nb (w : Int) : ∀ (c : List Int) (k : Int) (g : List Bool), Fj hs cs k (c ++ [w]) g = Hz hs cs (Fj hs cs k c g) (k + c.length) w
  | [], k, g => by simp [Fj]
  | a :: c, k, g => by
    show Fj hs cs (k + 1) (c ++ [w]) _ = Hz hs cs (Fj hs cs (k + 1) c _) _ w
    rw [Nb w c (k + 1), List.length_cons, show k + 1 + (c.length : Int) = k + ((c.length + 1 : Nat) : Int) by omega]
theorem KV (h : Jg n n2 hs rs cs) : ∀ (c : List Int) (k : Int) (g : List Bool), (∀ w ∈ c, 0 ≤ w ∧ w ≤ 7) → g.length = 24 → (Fj hs cs k c g).length = 24
  | [], _, _, _, hg => hg
  | w :: c, k, g, hc, hg => KV h c (k + 1) _ (fun x hx => hc x (by simp [hx])) (QC h k (hc w (by simp)) hg).2
def CB (hs : List (List (List Int))) (cs : List (Int × Int × Int)) (c : List Int) (h q : Int) : Bool := cs.any fun x => decide (x.2.2 = q) && decide (h ∈ cell hs x.2.1 (c.getD x.1.toNat 0))
theorem Wq {α : Type} (p q : α → Bool) : ∀ l : List α, (l.any p || l.any q) = l.any fun x => p x || q x
  | [] => rfl
  | a :: l => by
    simp only [List.any_cons]
    rw [← Wq p q l]
    cases p a <;> cases q a <;> cases l.any p <;> rfl
theorem any_congr {α : Type} {p q : α → Bool} : ∀ {l : List α}, (∀ x ∈ l, p x = q x) → l.any p = l.any q
  | [], _ => rfl
  | a :: l, h => by
    rw [List.any_cons, List.any_cons, h a (by simp), any_congr fun x hx => h x (by simp [hx])]
theorem QK (h : Jg n n2 hs rs cs) {x q : Int} (hx : 0 ≤ x ∧ x < 6) (hq : 0 ≤ q ∧ q < 4) : ∀ (c : List Int) (k : Nat) (g : List Bool), (∀ w ∈ c, 0 ≤ w ∧ w ≤ 7) → g.length = 24 →
    (Fj hs cs (k : Int) c g).getD (x * 4 + q).toNat false = (g.getD (x * 4 + q).toNat false || cs.any fun y => (decide ((k : Int) ≤ y.1) && decide (y.1 < (k : Int) + c.length)) && (decide (y.2.2 = q) && decide (x ∈ cell hs y.2.1 (c.getD (y.1 - k).toNat 0))))
  | [], k, g, _, _ => by
    have e : (cs.any fun y => (decide ((k : Int) ≤ y.1) && decide (y.1 < (k : Int) + (([] : List Int).length : Int))) && (decide (y.2.2 = q) && decide (x ∈ cell hs y.2.1 (([] : List Int).getD (y.1 - k).toNat 0)))) = false := by
      rw [List.any_eq_false]
      intro y _
      by_cases e : (k : Int) ≤ y.1
      · have : ¬ y.1 < (k : Int) + (([] : List Int).length : Int) := by simpa using e
        simp only [this, decide_false, Bool.and_false, Bool.false_and]; decide
      · simp [e]
    rw [e]; simp [Fj]
  | w :: c, k, g, hc, hg => by
    have hw := hc w (by simp)
    have e : Fj hs cs (k : Int) (w :: c) g = Fj hs cs ((k + 1 : Nat) : Int) c (Hz hs cs g (k : Int) w) := by
      rw [show ((k + 1 : Nat) : Int) = (k : Int) + 1 by omega]; rfl
    rw [e, QK h hx hq c (k + 1) _ (fun x hx => hc x (by simp [hx])) (QC h k hw hg).2, PM h k hw hx hq cs g (fun _ h => h) hg, Bool.or_assoc, Wq]
    congr 1
    refine any_congr fun y _ => ?_
    by_cases e1 : y.1 = (k : Int)
    · have e2 : ¬ ((k + 1 : Nat) : Int) ≤ y.1 := by omega
      have e3 : y.1 < (k : Int) + ((w :: c).length : Int) := by rw [List.length_cons]; omega
      have e4 : (y.1 - (k : Int)).toNat = 0 := by omega
      have d0 : decide (y.1 = (k : Int)) = true := decide_eq_true e1
      have d1 : decide (((k + 1 : Nat) : Int) ≤ y.1) = false := decide_eq_false e2
      have d2 : decide ((k : Int) ≤ y.1) = true := decide_eq_true (by omega)
      have d3 : decide (y.1 < (k : Int) + ((w :: c).length : Int)) = true := decide_eq_true e3
      rw [d0, d1, d2, d3, e4, List.getD_cons_zero]; simp
    · have d0 : decide (y.1 = (k : Int)) = false := decide_eq_false e1
      by_cases e2 : (k : Int) ≤ y.1
      · have e3 : ((k + 1 : Nat) : Int) ≤ y.1 := by omega
        have e4 : (y.1 - (k : Int)).toNat = (y.1 - ((k + 1 : Nat) : Int)).toNat + 1 := by omega
        have d1 : decide (((k + 1 : Nat) : Int) ≤ y.1) = true := decide_eq_true e3
        have d2 : decide ((k : Int) ≤ y.1) = true := decide_eq_true e2
        have d3 : decide (y.1 < ((k + 1 : Nat) : Int) + (c.length : Int)) = decide (y.1 < (k : Int) + ((w :: c).length : Int)) := decide_eq_decide.2 (by rw [List.length_cons]; omega)
        rw [e4, List.getD_cons_succ, d0, d1, d2, d3]; simp
      · have d1 : decide (((k + 1 : Nat) : Int) ≤ y.1) = false := decide_eq_false (by omega)
        have d2 : decide ((k : Int) ≤ y.1) = false := decide_eq_false e2
        rw [d0, d1, d2]; simp
theorem WO (i : Nat) : Gf.getD i false = false := by
  unfold Gf
  rw [List.getD_eq_getElem?_getD, List.getElem?_replicate]
  split <;> rfl
theorem Ly (h : Jg n n2 hs rs cs) {x q : Int} (hx : 0 ≤ x ∧ x < 6) (hq : 0 ≤ q ∧ q < 4) {c : List Int} (hc : ∀ w ∈ c, 0 ≤ w ∧ w ≤ 7) (hl : c.length = rs.length) : (Fj hs cs 0 c Gf).getD (x * 4 + q).toNat false = CB hs cs c x q := by
  have := QK h hx hq c 0 Gf hc (by simp [Gf])
  rw [show (((0 : Nat) : Int)) = 0 from rfl] at this
  rw [this, WO, Bool.false_or]
  unfold CB
  refine any_congr fun y hy => ?_
  obtain ⟨h1, _⟩ := h.cc y hy
  rw [decide_eq_true h1.1, decide_eq_true (by omega), Bool.true_and, Bool.true_and, Int.sub_zero]
abbrev Pl := Int × List Bool × List Int
def X8 (m : List ((Int × List Bool) × Bool)) (l : List Pl) : Prop := ∀ k, (Bz m k).getD false = true ↔ ∃ x ∈ l, (x.1, x.2.1) = k
structure Xq (S : Pl → Prop) (m : List ((Int × List Bool) × Bool)) (l l' : List Pl) (k : Nat) : Prop where
  ok : X8 m l'
  sub : ∀ x ∈ l, x ∈ l'
  new : ∀ x ∈ l', x ∈ l ∨ S x
  len : l'.length ≤ l.length + k
theorem Xq.refl {S : Pl → Prop} {m : List ((Int × List Bool) × Bool)} {l : List Pl} (h : X8 m l) : Xq S m l l 0 := ⟨h, fun _ h => h, fun _ h => .inl h, Nat.le_refl _⟩
theorem Xq.trans {S : Pl → Prop} {m m2 : List ((Int × List Bool) × Bool)} {l l2 l3 : List Pl} {a b : Nat} (h1 : Xq S m l l2 a) (h2 : Xq S m2 l2 l3 b) : Xq S m2 l l3 (a + b) :=
  ⟨h2.ok, fun x hx => h2.sub x (h1.sub x hx), fun x hx => (h2.new x hx).elim (fun h => h1.new x h) .inr, by have := h1.len; have := h2.len; omega⟩
theorem step_eq (h : Jg n n2 hs rs cs) {k : Nat} (hk : k < rs.length) {w0 : Int} {g : List Bool} (hg : g.length = 24) {c : List Int} (hc : c.length ≤ 100) {w : Int} (hw : 0 ≤ w ∧ w ≤ 7) {m : List ((Int × List Bool) × Bool)} {l : List Pl} (hm : X8 m l) (hl : l.length ≤ 100000) {S : Pl → Prop}
    (hS : Ic (rs.getD k 0) w = true → S (w, Hz hs cs g k w, c ++ [w])) :
    ∃ m' l', DL w0 g c w (fun aa : Int × Int => Dy n n2 hs rs cs aa.1 aa.2) (k : Int) n n2 hs rs cs m l = some (m', l') ∧ Xq S m' l l' 1 ∧ (Ic (rs.getD k 0) w = true → ∃ x ∈ l', (x.1, x.2.1) = (w, Hz hs cs g k w)) := by
  unfold DL
  have e0 : Dy n n2 hs rs cs (k : Int) w = some (Ic (rs.getD k 0) w) := by
    rw [YN h.rr (by omega) (by omega) hw, Int.toNat_natCast]
  show ∃ m' l', (b1 (Dy n n2 hs rs cs (k : Int) w) fun ok => _) = some (m', l') ∧ _
  rw [e0, AJ]
  by_cases e : Ic (rs.getD k 0) w = true
  · obtain ⟨h1, h2⟩ := QC h (k : Int) hw hg
    rw [e, if_neg (by decide), h1, AJ, CN (A9 (by omega))]
    by_cases e2 : (Bz m (w, Hz hs cs g k w)).getD false = true
    · rw [e2, if_neg (by decide)]
      exact ⟨m, l, rfl, ⟨hm, fun _ h => h, fun _ h => .inl h, by omega⟩, fun _ => (hm _).1 e2⟩
    · rw [if_pos (by simpa using e2), CN (A9 (by omega)), QO, Q6 (by omega), AJ, Kv (by simp; omega), Kv (by simp; omega)]
      refine ⟨_, _, rfl, ⟨fun q => ?_, fun x hx => List.mem_append_left _ hx, fun x hx => ?_, by simp⟩, fun _ => ⟨_, List.mem_append_right _ (List.mem_singleton.2 rfl), rfl⟩⟩
      · rw [VJ]
        by_cases e3 : (w, Hz hs cs g k w) = q
        · rw [if_pos e3]
          exact ⟨fun _ => ⟨_, List.mem_append_right _ (List.mem_singleton.2 rfl), e3⟩, fun _ => rfl⟩
        · rw [if_neg e3, hm q]
          constructor
          · rintro ⟨x, hx, he⟩; exact ⟨x, List.mem_append_left _ hx, he⟩
          · rintro ⟨x, hx, he⟩
            rcases List.mem_append.1 hx with hx | hx
            · exact ⟨x, hx, he⟩
            · rw [List.mem_singleton] at hx; subst hx; exact absurd he e3
      · rcases List.mem_append.1 hx with hx | hx
        · exact .inl hx
        · rw [List.mem_singleton] at hx; subst hx; exact .inr (hS e)
  · have e' : Ic (rs.getD k 0) w = false := by simpa using e
    rw [e', if_pos (by decide)]
    exact ⟨m, l, rfl, ⟨hm, fun _ h => h, fun _ h => .inl h, by omega⟩, fun h => absurd h (by decide)⟩
theorem U3 (h : Jg n n2 hs rs cs) {k : Nat} (hk : k < rs.length) {S : Pl → Prop} : ∀ (fu : Nat) (w : Nat) (l : List Pl) (m : List ((Int × List Bool) × Bool)), w + fu = 8 → X8 m l → l.length + fu ≤ 90000 →
    (∀ v : Int, (w : Int) ≤ v → v ≤ 7 → Ic (rs.getD k 0) v = true → S (v, Hz hs cs Gf k v, [v])) →
    ∃ m' l', Ck n n2 hs rs cs (k : Int) fu (w : Int) l m = some (l', m') ∧ Xq S m' l l' fu ∧ ∀ v : Int, (w : Int) ≤ v → v ≤ 7 → Ic (rs.getD k 0) v = true → ∃ x ∈ l', (x.1, x.2.1) = (v, Hz hs cs Gf k v)
  | 0, w, l, m, hw, hm, _, _ => ⟨m, l, rfl, .refl hm, fun v h1 h2 => by omega⟩
  | fu + 1, w, l, m, hw, hm, hl, hS => by
    obtain ⟨m1, l1, e1, g1, g2⟩ := step_eq (w0 := 0) (g := Gf) (c := []) h hk (by simp [Gf]) (by simp) (w := (w : Int)) (by omega) hm (by omega) (S := S) (fun e => hS w (Int.le_refl _) (by omega) e)
    obtain ⟨m2, l2, e2, f1, f2⟩ := U3 h hk (S := S) fu (w + 1) l1 m1 (by omega) g1.ok (by have := g1.len; omega) (fun v h1 h2 => hS v (by omega) h2)
    refine ⟨m2, l2, ?_, ?_, fun v h1 h2 h3 => ?_⟩
    · unfold Ck
      have ab : DL 0 (List.replicate 24 false) [] (w : Int) (fun aa : Int × Int => Dy n n2 hs rs cs aa.1 aa.2) (k : Int) n n2 hs rs cs m l = some (m1, l1) := e1
      rw [ab, DD, show (w : Int) + 1 = ((w + 1 : Nat) : Int) by omega]
      exact e2
    · rw [Nat.add_comm fu 1]; exact g1.trans f1
    · by_cases e : v = (w : Int)
      · subst e
        obtain ⟨x, hx, he⟩ := g2 h3
        exact ⟨x, f1.sub x hx, he⟩
      · exact f2 v (by omega) h2 h3
theorem Uz (h : Jg n n2 hs rs cs) {k : Nat} (hk : k < rs.length) {x3 : Pl} (hg : x3.2.1.length = 24) (hc : x3.2.2.length ≤ 100) {S : Pl → Prop} : ∀ (ws : List Int) (l : List Pl) (m : List ((Int × List Bool) × Bool)), (∀ w ∈ ws, 0 ≤ w ∧ w ≤ 7) → X8 m l → l.length + ws.length ≤ 90000 →
    (∀ v ∈ ws, Ic (rs.getD k 0) v = true → S (v, Hz hs cs x3.2.1 k v, x3.2.2 ++ [v])) →
    ∃ m' l', Dr n n2 hs rs cs (k : Int) x3 ws l m = some (l', m') ∧ Xq S m' l l' ws.length ∧ ∀ v ∈ ws, Ic (rs.getD k 0) v = true → ∃ x ∈ l', (x.1, x.2.1) = (v, Hz hs cs x3.2.1 k v)
  | [], l, m, _, hm, _, _ => ⟨m, l, rfl, .refl hm, fun v h1 => nomatch h1⟩
  | w :: ws, l, m, hw, hm, hl, hS => by
    rw [List.length_cons] at hl
    obtain ⟨m1, l1, e1, g1, g2⟩ := step_eq (w0 := x3.1) (g := x3.2.1) (c := x3.2.2) h hk hg hc (w := w) (hw w (by simp)) hm (by omega) (S := S) (fun e => hS w (by simp) e)
    obtain ⟨m2, l2, e2, f1, f2⟩ := Uz h hk hg hc (S := S) ws l1 m1 (fun v hv => hw v (by simp [hv])) g1.ok (by have := g1.len; omega) (fun v hv => hS v (by simp [hv]))
    refine ⟨m2, l2, ?_, ?_, fun v h1 h3 => ?_⟩
    · unfold Dr
      rw [e1, DD]; exact e2
    · rw [List.length_cons, Nat.add_comm _ 1]; exact g1.trans f1
    · rcases List.mem_cons.1 h1 with rfl | h1
      · obtain ⟨x, hx, he⟩ := g2 h3
        exact ⟨x, f1.sub x hx, he⟩
      · exact f2 v h1 h3
theorem UG (h : Jg n n2 hs rs cs) {k : Nat} (hk : k < rs.length) {S : Pl → Prop} : ∀ (now : List Pl) (l : List Pl) (m : List ((Int × List Bool) × Bool)), (∀ y ∈ now, y.2.1.length = 24 ∧ y.2.2.length ≤ 100 ∧ (0 ≤ y.1 ∧ y.1 ≤ 7)) → X8 m l → l.length + 3 * now.length ≤ 90000 →
    (∀ y ∈ now, ∀ v ∈ LQ y.1, Ic (rs.getD k 0) v = true → S (v, Hz hs cs y.2.1 k v, y.2.2 ++ [v])) →
    ∃ l', Cl n n2 hs rs cs (k : Int) now l m = some l' ∧ (∀ x ∈ l', x ∈ l ∨ S x) ∧ (∀ x ∈ l, x ∈ l') ∧ l'.length ≤ l.length + 3 * now.length ∧ ∀ y ∈ now, ∀ v ∈ LQ y.1, Ic (rs.getD k 0) v = true → ∃ x ∈ l', (x.1, x.2.1) = (v, Hz hs cs y.2.1 k v)
  | [], l, m, _, hm, _, _ => ⟨l, rfl, fun _ h => .inl h, fun _ h => h, by simp, fun y h1 => nomatch h1⟩
  | y :: now, l, m, hw, hm, hl, hS => by
    rw [List.length_cons] at hl
    obtain ⟨ab, ad, aa⟩ := hw y (by simp)
    have hn := VO aa
    obtain ⟨m1, l1, e1, g1, g2⟩ := Uz h hk ab ad (S := S) (LQ y.1) l m (fun w hw => (PC.1 hw).1) hm (by omega) (fun v hv => hS y (by simp) v hv)
    have h3 := g1.len
    obtain ⟨l2, e2, f1, f2, f3, f4⟩ := UG h hk (S := S) now l1 m1 (fun v hv => hw v (by simp [hv])) g1.ok (by omega) (fun v hv => hS v (by simp [hv]))
    refine ⟨l2, ?_, fun x hx => (f1 x hx).elim (fun h => g1.new x h) .inr, fun x hx => f2 x (g1.sub x hx), by rw [List.length_cons]; omega, fun z h1 v h5 h6 => ?_⟩
    · unfold Cl
      rw [VU aa, AJ, e1, DD]; exact e2
    · rcases List.mem_cons.1 h1 with rfl | h1
      · obtain ⟨x, hx, he⟩ := g2 v h5 h6
        exact ⟨x, f2 x hx, he⟩
      · exact f4 z h1 v h5 h6
structure Y4 (hs : List (List (List Int))) (cs : List (Int × Int × Int)) (pre : List Int) (now : List Pl) : Prop where
  of : ∀ x ∈ now, Ej none pre x.2.2 ∧ RV none x.2.2 = some x.1 ∧ x.2.1 = Fj hs cs 0 x.2.2 Gf
  all : ∀ c, Ej none pre c → ∃ x ∈ now, RV none c = some x.1 ∧ x.2.1 = Fj hs cs 0 c Gf
  len : now.length ≤ 8 * 3 ^ (pre.length - 1)
theorem VV (h : Jg n n2 hs rs cs) : ∃ now, (b2 (if (0 : Int) = 0 then gd (C9 0 ∧ C9 8) <| Ck n n2 hs rs cs 0 (Int.toNat (8 - 0)) 0 [] [] else some ([], [])) fun aa m => b1 (Cl n n2 hs rs cs 0 [] aa m) fun ab => some ab) = some now ∧ Y4 hs cs (rs.take 1) now := by
  have hr := h.hr
  have hm : X8 [] [] := fun k => by simp [Tt]
  have e0 : rs.take 1 = [rs.getD 0 0] := by
    cases rs with
    | nil => simp at hr
    | cons a l => rfl
  obtain ⟨m1, l1, e1, g1, g2⟩ := U3 h (k := 0) (by omega) (S := fun x => Ej none (rs.take 1) x.2.2 ∧ RV none x.2.2 = some x.1 ∧ x.2.1 = Fj hs cs 0 x.2.2 Gf) 8 0 [] [] rfl hm (by simp) (fun v h1 h2 h3 => by
    rw [e0]
    exact ⟨⟨⟨h1, h2⟩, h3, (fun _ h => nomatch h), trivial⟩, rfl, rfl⟩)
  refine ⟨l1, ?_, fun x hx => (g1.new x hx).elim (fun h => nomatch h) id, fun c hc => ?_, ?_⟩
  · have ad : Ck n n2 hs rs cs 0 (Int.toNat (8 - 0)) 0 [] [] = some (l1, m1) := e1
    rw [if_pos rfl, CN ⟨A9 (by omega), A9 (by omega)⟩, ad, DD]; rfl
  · rw [e0] at hc
    match c, hc with
    | [w], hc =>
      obtain ⟨h1, h2, _, _⟩ := hc
      obtain ⟨x, hx, he⟩ := g2 w h1.1 h1.2 h2
      have ae := congrArg Prod.fst he; have af := congrArg Prod.snd he
      exact ⟨x, hx, congrArg some ae.symm, af⟩
    | [], hc => exact hc.elim
    | _ :: _ :: _, hc => exact hc.2.2.2.elim
  · have := g1.len
    rw [e0]; simpa using this
theorem V0 (h : Jg n n2 hs rs cs) {k : Nat} (hk : k < rs.length) (ak : 1 ≤ k) {now : List Pl} (hN : Y4 hs cs (rs.take k) now) : ∃ aa, Cl n n2 hs rs cs (k : Int) now [] [] = some aa ∧ Y4 hs cs (rs.take (k + 1)) aa := by
  have hr := h.hr
  have hm : X8 [] [] := fun k => by simp [Tt]
  have ab : (rs.take k).length = k := by rw [List.length_take]; omega
  have e0 : rs.take (k + 1) = rs.take k ++ [rs.getD k 0] := by
    rw [List.take_add_one, OO (d := 0) hk]; rfl
  have hp : 3 ^ (k - 1) ≤ 3 ^ 6 := Nat.pow_le_pow_right (by decide) (by omega)
  have al : 3 ^ 6 = 729 := rfl
  have hl := hN.len
  rw [ab] at hl
  obtain ⟨l2, e2, f1, _, f3, f4⟩ := UG h hk (S := fun x => Ej none (rs.take (k + 1)) x.2.2 ∧ RV none x.2.2 = some x.1 ∧ x.2.1 = Fj hs cs 0 x.2.2 Gf) now [] [] (fun y hy => by
      obtain ⟨h1, h2, h3⟩ := hN.of y hy
      have hl := h1.len
      rw [ab] at hl
      refine ⟨by rw [h3]; exact KV h _ _ _ h1.T3 (by simp [Gf]), by omega, ?_⟩
      have ae : y.2.2 ≠ [] := by intro e; rw [e] at hl; simp at hl; omega
      have : ∀ (c : List Int) (p : Option Int) (v : Int), RV p c = some v → c ≠ [] → v ∈ c := fun c => by
        induction c with
        | nil => intro _ _ _ h; exact absurd rfl h
        | cons a c ih =>
          intro p v hv _
          cases c with
          | nil => cases hv; simp
          | cons b c => exact List.mem_cons_of_mem _ (ih (some a) v hv (by simp))
      exact h1.T3 _ (this _ _ _ h2 ae)) hm (by simp; omega) (fun y hy v hv ad => by
      obtain ⟨h1, h2, h3⟩ := hN.of y hy
      obtain ⟨h4, h5⟩ := PC.1 hv
      rw [e0]
      refine ⟨h1.snoc h4 ad (fun u hu => ?_), NA v _ _, ?_⟩
      · rw [h2] at hu; cases hu; exact h5
      · show Hz hs cs y.2.1 k v = _
        rw [Nb, h1.len, ab, h3, Int.zero_add])
  refine ⟨l2, e2, fun x hx => (f1 x hx).elim (fun h => nomatch h) id, fun c hc => ?_, ?_⟩
  · rw [e0] at hc
    obtain ⟨c', w, rfl, g1, g2, g3, g4⟩ := hc.WK
    obtain ⟨y, hy, af, ah⟩ := hN.all c' g1
    obtain ⟨x, hx, he⟩ := f4 y hy w (PC.2 ⟨g2, g4 _ af⟩) g3
    have ai := congrArg Prod.fst he; have aj := congrArg Prod.snd he
    refine ⟨x, hx, by rw [NA]; exact congrArg some ai.symm, ?_⟩
    rw [Nb, g1.len, ab, Int.zero_add]
    exact aj.trans (by rw [ah])
  · rw [List.length_nil, Nat.zero_add] at f3
    have : (rs.take (k + 1)).length - 1 = (k - 1) + 1 := by rw [List.length_take]; omega
    rw [this, Nat.pow_succ]; omega
theorem US (h : Jg n n2 hs rs cs) : ∀ (tl : List Int) (k : Nat) (now : List Pl), rs.drop k = tl → 1 ≤ k → Y4 hs cs (rs.take k) now → ∃ aa, Cj n n2 hs rs cs tl (k : Int) now = some aa ∧ Y4 hs cs rs aa
  | [], k, now, hd, _, hN => by
    have : rs.length ≤ k := by
      have := congrArg List.length hd; simp at this; omega
    rw [List.take_of_length_le this] at hN
    exact ⟨now, rfl, hN⟩
  | x :: tl, k, now, hd, hk, hN => by
    obtain ⟨ae, _, af⟩ := drop_cons 0 hd
    obtain ⟨ab, e1, ah⟩ := V0 h ae hk hN
    obtain ⟨ad, e2, ai⟩ := US h tl (k + 1) ab af (by omega) ah
    refine ⟨ad, ?_, ai⟩
    unfold Cj
    rw [if_neg (by omega), DD, e1, AJ, AJ, show (k : Int) + 1 = ((k + 1 : Nat) : Int) by omega]
    exact e2
theorem Sz : ∀ (now : List Pl) (out : List (List Bool × List Int)), out.length + now.length ≤ 100000 → ∃ L, CW now out = some L ∧ L.length ≤ out.length + now.length ∧ (∀ e ∈ L, e ∈ out ∨ ∃ x ∈ now, e = (x.2.1, x.2.2)) ∧ (∀ e ∈ out, e ∈ L) ∧ ∀ x ∈ now, ∃ e ∈ L, e.1 = x.2.1
  | [], out, _ => ⟨out, rfl, by simp, fun _ h => .inl h, fun _ h => h, fun _ h => nomatch h⟩
  | x :: now, out, hl => by
    rw [List.length_cons] at hl
    have e0 : BA out (fun aa : List Bool × List Int => Fp aa.1 aa.2 x.1 x.2.1 x.2.2) = some (out.any fun e => decide (e.1 = x.2.1)) := XH fun _ _ => rfl
    unfold CW
    rw [e0, AJ]
    by_cases e : (out.any fun e => decide (e.1 = x.2.1)) = true
    · obtain ⟨L, e1, g0, g1, g2, g3⟩ := Sz now out (by omega)
      rw [e, if_neg (by decide)]
      refine ⟨L, e1, by rw [List.length_cons]; omega, fun a ha => (g1 a ha).imp id (fun ⟨y, hy, he⟩ => ⟨y, by simp [hy], he⟩), g2, fun y hy => ?_⟩
      rcases List.mem_cons.1 hy with rfl | hy
      · obtain ⟨a, ha, hb⟩ := List.any_eq_true.1 e
        exact ⟨a, g2 a ha, of_decide_eq_true hb⟩
      · exact g3 y hy
    · have e' : (out.any fun e => decide (e.1 = x.2.1)) = false := Bool.eq_false_iff.2 e
      obtain ⟨L, e1, g0, g1, g2, g3⟩ := Sz now (out ++ [(x.2.1, x.2.2)]) (by simp; omega)
      rw [e', if_pos (by decide), Kv (by simp; omega)]
      refine ⟨L, e1, by rw [List.length_append] at g0; rw [List.length_cons]; simp at g0; omega, fun a ha => ?_, fun a ha => g2 a (List.mem_append_left _ ha), fun y hy => ?_⟩
      · rcases g1 a ha with h | ⟨y, hy, he⟩
        · rcases List.mem_append.1 h with h | h
          · exact .inl h
          · exact .inr ⟨x, by simp, List.mem_singleton.1 h⟩
        · exact .inr ⟨y, by simp [hy], he⟩
      · rcases List.mem_cons.1 hy with rfl | hy
        · exact ⟨_, g2 _ (List.mem_append_right _ (List.mem_singleton.2 rfl)), rfl⟩
        · exact g3 y hy
theorem QL (h : Jg n n2 hs rs cs) : ∃ L, Dg n n2 hs rs cs = some L ∧ L.length ≤ 20000 ∧ (∀ e ∈ L, Ej none rs e.2 ∧ e.1 = Fj hs cs 0 e.2 Gf) ∧ ∀ c, Ej none rs c → ∃ e ∈ L, e.1 = Fj hs cs 0 c Gf := by
  have hr := h.hr
  obtain ⟨ad, e1, af⟩ := VV h
  obtain ⟨now, e2, hN⟩ := US h (rs.drop 1) 1 ad rfl (Nat.le_refl _) af
  have hlen := hN.len
  have hp : 3 ^ (rs.length - 1) ≤ 3 ^ 7 := Nat.pow_le_pow_right (by decide) (by omega)
  have aj : 3 ^ 7 = 2187 := rfl
  obtain ⟨L, e3, g0, g1, g2, g3⟩ := Sz now [] (by simp; omega)
  refine ⟨L, ?_, by simp at g0; omega, fun e he => ?_, fun c hc => ?_⟩
  · have key : ∀ l : List Int, l ≠ [] → Cj n n2 hs rs cs l 0 [] = b1 (b2 (if (0 : Int) = 0 then gd (C9 0 ∧ C9 8) <| Ck n n2 hs rs cs 0 (Int.toNat (8 - 0)) 0 [] [] else some ([], [])) fun aa m => b1 (Cl n n2 hs rs cs 0 [] aa m) fun ab => some ab) fun ae => Cj n n2 hs rs cs (l.drop 1) (0 + 1) ae := fun l hl => by
      cases l with
      | nil => exact absurd rfl hl
      | cons a l => rfl
    have ah : Cj n n2 hs rs cs (rs.drop 1) (0 + 1) ad = some now := e2
    unfold Dg
    rw [key rs (by intro e; rw [e] at hr; simp at hr), e1, AJ, ah, AJ, e3, AJ]
  · rcases g1 e he with h1 | ⟨x, hx, rfl⟩
    · cases h1
    · obtain ⟨f1, _, f3⟩ := hN.of x hx
      exact ⟨f1, f3⟩
  · obtain ⟨x, hx, _, f2⟩ := hN.all c hc
    obtain ⟨e, he, ai⟩ := g3 x hx
    exact ⟨e, he, ai.trans f2⟩
end
end Go.Proofs.YtfmapnhfamoecaaGreat.Bk
