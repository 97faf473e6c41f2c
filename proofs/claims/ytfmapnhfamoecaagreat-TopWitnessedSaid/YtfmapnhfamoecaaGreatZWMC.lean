/- Layer 5: who surely slept, the fewest men; a night the other way round (NightTurned); in plain Lean. -/
import Derived.Test.YtfmapnhfamoecaaGreatZWMB
import Derived.Test.YtfmapnhfamoecaaGreatZWMA
namespace Go.Proofs.YtfmapnhfamoecaaGreat.Nt
open Go.PL Rv
section
variable {ls hs : List (List Int)} {ok : Nat → Bool} {okF : Int → Option Bool}
theorem VF {xs : List Int} (h : xs.length ≤ 1000000) : DY xs = some xs := by
  unfold DY Pn
  rw [KH (by simp; omega), List.nil_append]
  by_cases h1 : xs = []
  · rw [if_pos h1, h1]; rfl
  · rw [if_neg h1]
end
theorem Xj {α : Type} (z : α) (l : List α) : X4 (List.replicate l.length z) l = l := by
  unfold X4; simp
theorem PI {α : Type} (a : List α) (n : Nat) (z x : α) : (a ++ List.replicate (n + 1) z).set a.length x = a ++ [x] ++ List.replicate n z := by
  rw [List.set_append_right (h := Nat.le_refl _), Nat.sub_self, List.replicate_succ, List.set_cons_zero, List.append_assoc]; rfl
theorem VX {ls hs : List (List Int)} (g : GO ls hs) : ∀ l ∈ ls, l.length ≤ 6 := fun l hl => by
  obtain ⟨i, hi, he⟩ := List.getElem_of_mem hl
  have := MR i l (g.nd l hl) (g.XB i l (by rw [List.getElem?_eq_getElem hi, he]))
  have := g.n6
  omega
section
variable {ls hs : List (List Int)}
end
end Go.Proofs.YtfmapnhfamoecaaGreat.Nt
namespace Go.Proofs.YtfmapnhfamoecaaGreat.Nt
open Go.PL Rv
def Rg (ls : List (List Int)) (ms : List Int) (i : Nat) : Int := if ((HQ ls ms).any fun a => a.testBit i) = false then 2 else if ((HQ ls ms).all fun a => a.testBit i) = true then 1 else 0
def It (ls : List (List Int)) (ms : List Int) : List Int := (List.range ls.length).map (Rg ls ms)
section
variable {ls hs : List (List Int)}
theorem TI {n : Nat} (hn : n ≤ 6) : ∀ (l : List Nat) (s a : Nat), s < 2 ^ n → a < 2 ^ n → (∀ x ∈ l, x < 2 ^ n) → CO (K5 l) (s : Int) (a : Int) = some (((l.foldl (· ||| ·) s : Nat) : Int), ((l.foldl (· &&& ·) a : Nat) : Int))
  | [], s, a, _, _, _ => rfl
  | x :: l, s, a, hs, ha, hl => by
    have hx := hl x (List.mem_cons_self ..)
    rw [Uz]; unfold CO
    rw [PS (RV hs hn) (RV hx hn), SE (RV ha hn) (RV hx hn)]
    exact TI hn l _ _ (Nat.or_lt_two_pow hs hx) (Nat.lt_of_le_of_lt Nat.and_le_left ha) (fun y hy => hl y (List.mem_cons_of_mem _ hy))
theorem T6 : ∀ (l : List Nat) (s i : Nat), (l.foldl (· ||| ·) s).testBit i = (s.testBit i || l.any fun a => a.testBit i)
  | [], s, i => by simp
  | x :: l, s, i => by rw [List.foldl_cons, T6 l, Nat.testBit_or, List.any_cons, Bool.or_assoc]
theorem Sf : ∀ (l : List Nat) (s i : Nat), (l.foldl (· &&& ·) s).testBit i = (s.testBit i && l.all fun a => a.testBit i)
  | [], s, i => by simp
  | x :: l, s, i => by rw [List.foldl_cons, Sf l, Nat.testBit_and, List.all_cons, Bool.and_assoc]
theorem WK {n : Nat} : ∀ (l : List Nat) (s : Nat), s < 2 ^ n → (∀ x ∈ l, x < 2 ^ n) → l.foldl (· ||| ·) s < 2 ^ n
  | [], _, h, _ => h
  | x :: l, s, h, hl => by
    rw [List.foldl_cons]
    exact WK l _ (Nat.or_lt_two_pow h (hl x (List.mem_cons_self ..))) (fun y hy => hl y (List.mem_cons_of_mem _ hy))
theorem Vg {n : Nat} : ∀ (l : List Nat) (s : Nat), s < 2 ^ n → l.foldl (· &&& ·) s < 2 ^ n
  | [], _, h => h
  | x :: l, s, h => by
    rw [List.foldl_cons]
    exact Vg l _ (Nat.lt_of_le_of_lt Nat.and_le_left h)
theorem T9 {ms : List Int} {s a n : Nat} (hn : n ≤ 6) (hs : s < 2 ^ n) (ha : a < 2 ^ n) (h1 : ∀ i, i < n → s.testBit i = (HQ ls ms).any fun a => a.testBit i) (h2 : ∀ i, i < n → a.testBit i = (HQ ls ms).all fun a => a.testBit i) : ∀ (tl : List (List Int)) (k : Nat), k + tl.length = n → CQ (s : Int) (a : Int) tl (k : Int) ((List.range k).map (Rg ls ms)) = some ((List.range n).map (Rg ls ms))
  | [], k, hk => by
    simp at hk
    subst hk; rfl
  | x :: tl, k, hk => by
    rw [List.length_cons] at hk
    have e : (if Fa (shr (a : Int) (k : Int)) 1 = 1 then some (1 : Int) else some 0) = some (if a.testBit k = true then 1 else 0) := by
      by_cases h : a.testBit k = true
      · rw [if_pos ((Jf (RV ha hn) k).2 h), if_pos h]
      · rw [if_neg (fun q => h ((Jf (RV ha hn) k).1 q)), if_neg h]
    have e2 : ∀ v : Int, (if Fa (shr (s : Int) (k : Int)) 1 = 0 then some (2 : Int) else some v) = some (if s.testBit k = false then 2 else v) := fun v => by
      by_cases h : s.testBit k = true
      · rw [if_neg (fun q => (K9 (RV hs hn) k).1 q h), if_neg (by rw [h]; decide)]
      · rw [if_pos ((K9 (RV hs hn) k).2 h), if_pos (by simpa using h)]
    have e3 : (List.range k).map (Rg ls ms) ++ [if s.testBit k = false then (2 : Int) else if a.testBit k = true then 1 else 0] = (List.range (k + 1)).map (Rg ls ms) := by
      rw [List.range_succ, List.map_append, List.map_singleton]
      unfold Rg
      rw [h1 k (by omega), h2 k (by omega)]
    unfold CQ
    rw [Dn ⟨by omega, by omega⟩, e, AZ, Dn ⟨by omega, by omega⟩, e2, AZ, KH (by simp; omega), e3, show (k : Int) + 1 = ((k + 1 : Nat) : Int) by omega]
    exact T9 hn hs ha h1 h2 tl (k + 1) (by omega)
theorem UD {xs : List Int} (h : xs.length ≤ 1000000) : BL xs = some xs := by
  unfold BL Pn
  rw [KH (by simp; omega), List.nil_append]
  by_cases h1 : xs = []
  · rw [if_pos h1, h1]; rfl
  · rw [if_neg h1]
theorem Ob (ls : List (List Int)) (ms : List Int) : (It ls ms).length = ls.length := by simp [It]
theorem UF {ms aa : List Int} (h6 : ls.length ≤ 6) (h : rowOf ls ms = rowOf ls aa) : HQ ls ms = HQ ls aa := by
  have hp := IA h6
  unfold HQ
  apply List.filter_congr
  intro a ha
  have ab := List.mem_range.1 ha
  have e : ∀ ms, (rowOf ls ms).getD a false = PD ls ms a := fun ms => by
    unfold rowOf OI
    rw [List.getD_eq_getElem?_getD, List.getElem?_map, List.getElem?_range (by omega)]
    simp [ab]
  rw [← e ms, ← e aa, h]
theorem TR (g : GO ls hs) : ∀ (tl : List (List Int)) (k : Nat), hs.drop k = tl → DD ls ls hs (hs.map (rowOf ls)) tl (k : Int) ((hs.take k).map (It ls)) = some (hs.map (It ls))
  | [], k, hd => by
    have : hs.length ≤ k := List.drop_eq_nil_iff.1 hd
    rw [List.take_of_length_le this]; rfl
  | ms :: tl, k, hd => by
    have h6 := g.n6
    have h8 := g.h8
    have hp := IA g.n6
    have hk : k < hs.length := by
      rcases Nat.lt_or_ge k hs.length with h' | h'
      · exact h'
      · rw [List.drop_eq_nil_of_le h'] at hd; cases hd
    have hg : hs.getD k [] = ms := by
      rw [List.drop_eq_getElem_cons hk] at hd
      rw [List.getD_eq_getElem?_getD, List.getElem?_eq_getElem hk]
      exact (List.cons.inj hd).1
    have aj : hs.drop (k + 1) = tl := by
      rw [List.drop_eq_getElem_cons hk] at hd
      exact (List.cons.inj hd).2
    have af : (hs.take k).map (It ls) ++ [It ls ms] = (hs.take (k + 1)).map (It ls) := by
      rw [List.take_add_one, List.getElem?_eq_getElem hk, List.map_append]
      rw [List.getD_eq_getElem?_getD, List.getElem?_eq_getElem hk, Option.getD_some] at hg
      rw [hg]; rfl
    have hlen : ((hs.take k).map (It ls)).length = k := by rw [List.length_map, List.length_take]; omega
    have ih := TR g tl (k + 1) aj
    have fresh : (b1 (Dk ls hs) fun n2 => gd (C6 (n2 - 1)) <| b2 (b1 (Fo ls hs (hs.map (rowOf ls)) (k : Int)) fun y => CO y 0 (n2 - 1)) fun some_ aa => b1 (CQ some_ aa ls 0 []) fun l2 => ap ((hs.take k).map (It ls)) [l2] fun ab => some ab) = some ((hs.take (k + 1)).map (It ls)) := by
      have ah : 0 < 2 ^ ls.length := Nat.pow_pos (by decide)
      have ai : ∀ x ∈ HQ ls ms, x < 2 ^ ls.length := fun x hx => (Mc.1 hx).1
      have h2 := TI h6 (HQ ls ms) 0 (2 ^ ls.length - 1) ah (by omega) ai
      have h3 := T9 (ls := ls) (ms := ms) (s := (HQ ls ms).foldl (· ||| ·) 0) (a := (HQ ls ms).foldl (· &&& ·) (2 ^ ls.length - 1)) h6 (WK _ _ ah ai) (Vg _ _ (by omega)) (fun i _ => by rw [T6, Nat.zero_testBit, Bool.false_or]) (fun i hi => by rw [Sf, Nat.testBit_two_pow_sub_one, decide_eq_true hi, Bool.true_and]) ls 0 (by omega)
      have ak : CO (K5 (HQ ls ms)) 0 ((2 ^ ls.length - 1 : Nat) : Int) = _ := h2
      have al : CQ _ _ ls 0 [] = some (It ls ms) := h3
      rw [PO (by omega), AZ, Dn (S5 (by omega)), WR g hk, AZ, hg, show ((2 ^ ls.length : Nat) : Int) - 1 = ((2 ^ ls.length - 1 : Nat) : Int) by omega, ak, D0, al, AZ, KH (by simp; omega), af]
    unfold DD
    have e0 : (b1 (if 0 < (k : Int) then (ix (hs.map (rowOf ls)) (k : Int) fun x2 => gd (C6 ((k : Int) - 1)) <| ix (hs.map (rowOf ls)) ((k : Int) - 1) fun x3 => some (decide (x2 = x3))) else some false) fun k2 => if k2 = true then (gd (C6 ((k : Int) - 1)) <| ix ((hs.take k).map (It ls)) ((k : Int) - 1) fun x4 => b1 (BL x4) fun l => ap ((hs.take k).map (It ls)) [l] fun ad => some ad) else (b1 (Dk ls hs) fun n2 => gd (C6 (n2 - 1)) <| b2 (b1 (Fo ls hs (hs.map (rowOf ls)) (k : Int)) fun y => CO y 0 (n2 - 1)) fun some_ aa => b1 (CQ some_ aa ls 0 []) fun l2 => ap ((hs.take k).map (It ls)) [l2] fun ab => some ab)) = some ((hs.take (k + 1)).map (It ls)) := by
      rw [fresh]
      by_cases h0 : k = 0
      · rw [if_neg (by omega), AZ, if_neg (by decide)]
      · rw [if_pos (by omega), Q2 [] _ (by rw [List.length_map]; exact hk), P4 hk, Dn (Cf (by omega)), show (k : Int) - 1 = ((k - 1 : Nat) : Int) by omega, Q2 [] _ (by rw [List.length_map]; omega), P4 (by omega), AZ]
        by_cases hr : rowOf ls (hs.getD k []) = rowOf ls (hs.getD (k - 1) [])
        · have hv : It ls (hs.getD (k - 1) []) = It ls ms := by
            rw [← hg]
            unfold It Rg
            rw [UF h6 hr]
          have ae : ((hs.take k).map (It ls)).getD (k - 1) [] = It ls ms := by
            rw [List.getD_eq_getElem?_getD, List.getElem?_map, List.getElem?_take, if_pos (by omega), List.getElem?_eq_getElem (by omega), ← hv, List.getD_eq_getElem?_getD, List.getElem?_eq_getElem (by omega)]; rfl
          rw [if_pos (decide_eq_true hr), Dn (Cf (by omega)), Q2 [] _ (by omega), ae, UD (by rw [Ob]; omega), AZ, KH (by simp; omega), af]
        · rw [if_neg (fun h => hr (of_decide_eq_true h))]
    rw [e0, AZ, show (k : Int) + 1 = ((k + 1 : Nat) : Int) by omega]
    exact ih
theorem SM (g : GO ls hs) {s : List Nat} (he : JA ls hs s) : G9 ls hs = some (hs.map (It ls), 0) := by
  obtain ⟨c, h1⟩ := VV g he
  have h := TR g hs 0 rfl
  have h' : DD ls ls hs (hs.map (rowOf ls)) hs 0 [] = some (hs.map (It ls)) := h
  unfold G9
  rw [h1, D0, if_neg (by decide), IG, h', AZ]
theorem Q7 {ms : List Int} {i a : Nat} (ha : a ∈ HQ ls ms) (h : Rg ls ms i = 1) : a.testBit i = true := by
  unfold Rg at h
  split at h
  · cases h
  · split at h
    · rename_i h2; exact List.all_eq_true.1 h2 a ha
    · cases h
theorem SC {ms : List Int} {i a : Nat} (ha : a ∈ HQ ls ms) (h : Rg ls ms i = 2) : ¬ a.testBit i = true := by
  unfold Rg at h
  split at h
  · rename_i h2
    rw [List.any_eq_false] at h2
    exact h2 a ha
  · split at h <;> cases h
variable {metal : List Int}
end
end Go.Proofs.YtfmapnhfamoecaaGreat.Nt
namespace Go.Proofs.YtfmapnhfamoecaaGreat.Nt
open Go.PL Rv
theorem Wu {α : Type} (a : List α) (x : α) (tl : List α) (d : α) : (a ++ x :: tl).getD a.length d = x := by
  rw [List.getD_eq_getElem?_getD, List.getElem?_append_right (Nat.le_refl _), Nat.sub_self]; rfl
theorem VY {α : Type} (a : List α) (x y : α) (tl : List α) : (a ++ x :: tl).set a.length y = a ++ y :: tl := by
  rw [List.set_append_right (h := Nat.le_refl _), Nat.sub_self, List.set_cons_zero]
section
variable {ls hs : List (List Int)}
theorem TJ {c : Nat} : ∀ (ms : List Int) (k : Nat), (∀ (i : Nat) m, ms[i]? = some m → Jj c m (k + i) = true) → LC c ms k = true
  | [], _, _ => rfl
  | m :: ms, k, h => by
    unfold LC
    rw [Bool.and_eq_true]
    refine ⟨h 0 m rfl, TJ ms (k + 1) fun i m' hi => ?_⟩
    have := h (i + 1) m' (by simpa using hi)
    rwa [show k + (i + 1) = k + 1 + i by omega] at this
theorem Ui {c : Nat} : ∀ {ms : List Int} {k i : Nat} {m : Int}, LC c ms k = true → ms[i]? = some m → Jj c m (k + i) = true
  | [], _, _, _, _, h => by simp at h
  | x :: ms, k, i, m, h, hi => by
    unfold LC at h
    rw [Bool.and_eq_true] at h
    cases i with
    | zero => simp at hi; subst hi; exact h.1
    | succ i =>
      have := Ui h.2 (i := i) (by simpa using hi)
      rwa [show k + 1 + i = k + (i + 1) by omega] at this
end
end Go.Proofs.YtfmapnhfamoecaaGreat.Nt
namespace Go.Proofs.YtfmapnhfamoecaaGreat.Nt
open Go.PL Rv
def Mn (hs : List (List Int)) (h i : Nat) (m : Int) : List (List Int) := hs.set h ((hs.getD h []).set i m)
section
variable {ls hs : List (List Int)}
theorem QK {h : Nat} (hh : h < hs.length) : hs.getD h [] ∈ hs := by
  rw [List.getD_eq_getElem?_getD, List.getElem?_eq_getElem hh]; exact List.getElem_mem _
theorem GO.Mn (g : GO ls hs) {h : Nat} (hh : h < hs.length) (i : Nat) {m : Int} (hm : 0 ≤ m ∧ m ≤ 2) : GO ls (Mn hs h i m) := by
  unfold Nt.Mn
  refine ⟨g.n1, g.n6, by rw [List.length_set]; exact g.h1, by rw [List.length_set]; exact g.h8, fun ms h1 => ?_, fun ms h1 x hx => ?_, g.XB, g.nd⟩
  · rcases List.mem_or_eq_of_mem_set h1 with h2 | rfl
    · exact g.wid ms h2
    · rw [List.length_set, g.wid _ (QK hh)]
  · rcases List.mem_or_eq_of_mem_set h1 with h2 | rfl
    · exact g.X9 ms h2 x hx
    · rcases List.mem_or_eq_of_mem_set hx with h3 | rfl
      · exact g.X9 _ (QK hh) x h3
      · exact hm
theorem T1 : ∀ (tl a : List (List Int)), (∀ l ∈ tl, l.length ≤ 1000000) → CE tl (a.length : Int) (a ++ List.replicate tl.length []) = some (a ++ tl)
  | [], a, _ => by simp [CE]
  | x :: tl, a, h => by
    unfold CE
    have ih := T1 tl (a ++ [x]) (fun l hl => h l (List.mem_cons_of_mem _ hl))
    rw [VF (h x (List.mem_cons_self ..)), AZ, Q2 [] _ (by simp), QR, Int.toNat_natCast, List.length_cons, PI]
    rw [List.length_append] at ih
    simpa using ih
theorem Us : ∀ (tl a : List (List Int)), (∀ l ∈ tl, l.length ≤ 1000000) → CF tl (a.length : Int) (a ++ List.replicate tl.length []) = some (a ++ tl)
  | [], a, _ => by simp [CF]
  | x :: tl, a, h => by
    unfold CF
    have hx := h x (List.mem_cons_self ..)
    have ih := Us tl (a ++ [x]) (fun l hl => h l (List.mem_cons_of_mem _ hl))
    have e1 : (a ++ [List.replicate x.length (0 : Int)] ++ List.replicate tl.length ([] : List Int)).getD a.length [] = List.replicate x.length 0 := by
      rw [List.append_assoc]; exact Wu ..
    have e2 : (a ++ [List.replicate x.length (0 : Int)] ++ List.replicate tl.length ([] : List Int)).set a.length x = a ++ [x] ++ List.replicate tl.length [] := by
      rw [List.append_assoc, List.append_assoc]; exact VY ..
    rw [Q2 [] _ (by simp), Dn ⟨by omega, by omega⟩, QR, QR, Int.toNat_natCast, Int.toNat_natCast, List.length_cons, PI, Q2 [] _ (by simp), e1, QR, Xj, QR, e2]
    rw [List.length_append] at ih
    simpa using ih
theorem Wp (g : GO ls hs) {h i : Nat} (hh : h < hs.length) (hi : i < ls.length) (m : Int) : FT ls hs (h : Int) (i : Int) m = some (ls, Mn hs h i m) := by
  have h6 := g.n6; have h8 := g.h8
  have e1 := T1 ls [] (fun l hl => by have := VX g l hl; omega)
  have e2 := Us hs [] (fun l hl => by have := g.XC l hl; omega)
  rw [List.nil_append, List.nil_append] at e1 e2
  have aa : CE ls 0 (List.replicate ls.length []) = some ls := e1
  have ab : CF hs 0 (List.replicate hs.length []) = some hs := e2
  have hw := g.wid _ (QK hh)
  unfold FT
  rw [Dn ⟨by omega, by omega⟩, Dn ⟨by omega, by omega⟩, QR, QR, Int.toNat_natCast, Int.toNat_natCast, aa, AZ, ab, AZ, Q2 [] _ hh, Q2 0 _ (by omega), QR, QR, Int.toNat_natCast, Int.toNat_natCast]
  rfl
theorem Vl (g : GO ls hs) {h i : Nat} (hh : h < hs.length) (hi : i < ls.length) : FE ls hs (h : Int) (i : Int) = some true := by
  have h6 := g.n6; have h8 := g.h8
  unfold FE
  rw [Dn (Cf (by omega)), Pr, AZ, if_pos (decide_eq_true (by omega)), Dn (Cf (by omega)), Pr, AZ, decide_eq_true (by omega)]
theorem Wa (g : GO ls hs) {h i : Nat} (hh : h < hs.length) (hi : i < ls.length) {m : Int} (hm : 0 ≤ m ∧ m ≤ 2) : I6 ls hs (h : Int) (i : Int) m = some (ls, Mn hs h i m, 0) := by
  unfold I6
  rw [SI g, AZ, if_neg (fun h => h rfl), Vl g hh hi, AZ, if_neg (by decide)]
  unfold DX
  rw [Pr, AZ, AZ, decide_eq_true hm, if_neg (by decide), Wp g hh hi, D0]
theorem La {ms : List Int} {a : Nat} : PD ls ms a = true ↔ ∀ (i : Nat) m, ms[i]? = some m → Jj (Kx ls a) m i = true := by
  constructor
  · intro h i m hi
    have := Ui h hi
    rwa [Nat.zero_add] at this
  · intro h
    exact TJ _ 0 fun i m hi => by rw [Nat.zero_add]; exact h i m hi
def Yf (ls hs : List (List Int)) (h i : Nat) : Nat := max (Xq ls (Mn hs h i 1)).length (Xq ls (Mn hs h i 2)).length
def X6 (ls hs : List (List Int)) (h i : Nat) : Prop := h < hs.length ∧ i < ls.length ∧ (hs.getD h []).getD i 0 = 0
def W6 (ls hs : List (List Int)) (seen : Nat → Nat → Prop) (bh bm n : Int) : Prop :=
  (bh = -1 ∧ bm = -1 ∧ ∀ h i, seen h i → ¬ X6 ls hs h i) ∨ ∃ h i : Nat, bh = (h : Int) ∧ bm = (i : Int) ∧ X6 ls hs h i ∧ n = (Yf ls hs h i : Int) ∧ ∀ h' i', seen h' i' → X6 ls hs h' i' → Yf ls hs h i ≤ Yf ls hs h' i'
theorem W6.mono {s1 s2 : Nat → Nat → Prop} {bh bm n : Int} (h : W6 ls hs s1 bh bm n) (ab : ∀ h i, s2 h i → X6 ls hs h i → s1 h i) : W6 ls hs s2 bh bm n := by
  rcases h with ⟨h1, h2, h3⟩ | ⟨a, b, h1, h2, h3, h4, h5⟩
  · exact .inl ⟨h1, h2, fun x y aa hu => h3 x y (ab x y aa hu) hu⟩
  · exact .inr ⟨a, b, h1, h2, h3, h4, fun x y aa hu => h5 x y (ab x y aa hu) hu⟩
variable {metal : List Int}
end
end Go.Proofs.YtfmapnhfamoecaaGreat.Nt
namespace Go.Proofs.YtfmapnhfamoecaaGreat.Nt
open Go.PL Rv
theorem UR : HU = some true := by decide +kernel
theorem H6 (n lo hi : Int) : IB n lo hi = some (decide (lo ≤ n ∧ n ≤ hi)) := by
  unfold IB
  by_cases h1 : lo ≤ n
  · rw [if_pos h1]; simp [h1]
  · rw [if_neg h1]; simp [h1]
theorem Ur {f : List Int → Option Bool} {g : List Int → Bool} : ∀ (l : List (List Int)) (k : Int), 0 ≤ k → (∀ x ∈ l, f x = some (g x)) → ∃ n, Cc f l k = some n ∧ (0 ≤ n ↔ l.any g = true)
  | [], k, _, _ => ⟨-1, rfl, by simp⟩
  | x :: l, k, hk, hf => by
    unfold Cc
    rw [hf x (by simp), AZ]
    by_cases e : g x = true
    · rw [if_pos e]; exact ⟨k, rfl, by simp [e, hk]⟩
    · rw [if_neg e]
      obtain ⟨r, h1, h2⟩ := Ur l (k + 1) (by omega) (fun y hy => hf y (by simp [hy]))
      exact ⟨r, h1, by rw [h2]; simp [e]⟩
theorem O7 {f : Int → Option Bool} {g : Int → Bool} {l : List Int} (h : ∀ x ∈ l, f x = some (g x)) : D8 l f = some (l.all g) := by
  unfold D8
  rw [contains_eq (g := fun x => !g x) (fun x hx => by unfold FZ; rw [h x hx, AZ]), AZ, PR]
theorem LO {f : List Int → Option Bool} {g : List Int → Bool} {l : List (List Int)} (h : ∀ x ∈ l, f x = some (g x)) : CH l f = some (l.all g) := by
  unfold CH Db Et
  obtain ⟨n, h1, h2⟩ := Ur (g := fun x => !g x) (f := fun aa : List Int => EM aa f) l 0 (by omega) (fun x hx => by unfold EM; rw [h x hx, AZ])
  rw [h1, AZ, Lx h2, AZ, PR]
section
variable {W lo fo : List Int}
structure Re (W lo fo : List Int) : Prop where
  n : 1 ≤ W.length ∧ W.length ≤ 5
  ll : lo.length = W.length
  lf : fo.length = W.length
  wt : ∀ x ∈ W, 1 ≤ x ∧ x ≤ 9
  vl : ∀ x ∈ lo, -1 ≤ x ∧ x ≤ 5
  vf : ∀ x ∈ fo, 0 ≤ x ∧ x ≤ 5
  ag : ∀ t, t < W.length → lo.getD t 0 ≠ -1 → lo.getD t 0 = fo.getD t 0
theorem Xh (h : Re W lo fo) : JV W 0 [lo] [fo] [5] = some 0 := by
  have hn := h.n
  have h2 : ∀ l : List Int, (∀ x ∈ l, -1 ≤ x ∧ x ≤ 5) → EY l = some true := fun l hl => by
    unfold EY
    rw [O7 (g := fun x => decide (-1 ≤ x ∧ x ≤ 5)) (fun x _ => by unfold G7; rw [H6, AZ]), AZ]
    congr 1
    rw [List.all_eq_true]
    exact fun x hx => decide_eq_true (hl x hx)
  have e1 : CH [lo] (fun aa => EZ aa W 0 [lo] [fo] [5]) = some true := by
    rw [LO (f := fun aa => EZ aa W 0 [lo] [fo] [5]) (g := fun x => decide ((x.length : Int) = (W.length : Int))) (fun x _ => rfl)]
    simp [h.ll]
  have e2 : CH [fo] (fun aa => EZ aa W 0 [lo] [fo] [5]) = some true := by
    rw [LO (f := fun aa => EZ aa W 0 [lo] [fo] [5]) (g := fun x => decide ((x.length : Int) = (W.length : Int))) (fun x _ => rfl)]
    simp [h.lf]
  have e3 : D8 W (fun aa : Int => Hp aa) = some true := by
    rw [O7 (g := fun x => decide (1 ≤ x ∧ x ≤ 9)) (fun x _ => by unfold Hp; rw [H6, AZ])]
    congr 1
    rw [List.all_eq_true]
    exact fun x hx => decide_eq_true (h.wt x hx)
  have e4 : D8 [(5 : Int)] (fun aa : Int => Hu aa) = some true := by
    rw [O7 (g := fun x => decide (0 ≤ x ∧ x ≤ 99)) (fun x _ => by unfold Hu; rw [H6, AZ])]
    simp
  have e5 : CH [lo] (fun aa => EY aa) = some true := by
    rw [LO (g := fun _ => true) (fun x hx => by rw [List.mem_singleton.1 hx]; exact h2 lo h.vl)]
    simp
  have e6 : CH [fo] (fun aa => EY aa) = some true := by
    rw [LO (g := fun _ => true) (fun x hx => by rw [List.mem_singleton.1 hx]; exact h2 fo fun y hy => by have := h.vf y hy; omega)]
    simp
  unfold JV
  rw [H6, AZ, decide_eq_true (show (1 : Int) ≤ (W.length : Int) ∧ (W.length : Int) ≤ 5 by omega), if_neg (by decide), if_neg (by simp), AZ, if_neg (by simp), e1, AZ, if_neg (by decide), e2, AZ, if_neg (by decide), AZ, if_neg (by simp), e3, AZ, if_neg (by decide), H6, AZ, AZ, if_neg (by decide), e4, AZ, if_neg (by decide), e5, AZ, if_neg (by decide), e6, AZ, AZ, if_neg (by decide)]
def OC (W lo : List Int) : Nat → Nat → Int
  | 0, _ => 0
  | m + 1, k => (if lo.getD k 0 = -1 then 0 else W.getD k 0) + OC W lo m (k + 1)
theorem PM (hw : ∀ x ∈ W, 1 ≤ x ∧ x ≤ 9) : ∀ (m k : Nat), k + m ≤ W.length → 0 ≤ OC W lo m k ∧ OC W lo m k ≤ 9 * m ∧ (0 < OC W lo m k ↔ ∃ t, k ≤ t ∧ t < k + m ∧ lo.getD t 0 ≠ -1)
  | 0, k, _ => ⟨Int.le_refl _, by unfold OC; omega, by unfold OC; constructor; omega; rintro ⟨t, h1, h2, _⟩; omega⟩
  | m + 1, k, hk => by
    obtain ⟨h1, h2, h3⟩ := PM hw m (k + 1) (by omega)
    have hx := hw (W.getD k 0) (by rw [List.getD_eq_getElem?_getD, List.getElem?_eq_getElem (by omega)]; exact List.getElem_mem _)
    unfold OC
    by_cases c : lo.getD k 0 = -1
    · rw [if_pos c]
      refine ⟨by omega, by omega, ?_⟩
      rw [show (0 : Int) + OC W lo m (k + 1) = OC W lo m (k + 1) by omega, h3]
      constructor
      · rintro ⟨t, t1, t2, t3⟩; exact ⟨t, by omega, by omega, t3⟩
      · rintro ⟨t, t1, t2, t3⟩
        have : t ≠ k := fun e => t3 (by rw [e]; exact c)
        exact ⟨t, by omega, by omega, t3⟩
    · rw [if_neg c]
      exact ⟨by omega, by omega, ⟨fun _ => ⟨k, Nat.le_refl _, by omega, c⟩, fun _ => by omega⟩⟩
theorem Sj {aa : List Int} (hw : ∀ x ∈ W, 1 ≤ x ∧ x ≤ 9) (hl : ∀ t, t < W.length → lo.getD t 0 ≠ -1 → aa.getD t 0 ≠ -1) : ∀ (m k : Nat), k + m ≤ W.length → OC W lo m k ≤ OC W aa m k
  | 0, k, _ => Int.le_refl _
  | m + 1, k, hk => by
    have ih := Sj hw hl m (k + 1) (by omega)
    have hx := hw (W.getD k 0) (by rw [List.getD_eq_getElem?_getD, List.getElem?_eq_getElem (by omega)]; exact List.getElem_mem _)
    unfold OC
    by_cases c : lo.getD k 0 = -1
    · rw [if_pos c]; split <;> omega
    · rw [if_neg c, if_neg (hl k (by omega) c)]; omega
def Sd (a : Int) : List Int := (List.replicate 36 0).set 0 a
theorem Ru (h : Re W lo fo) : ∀ (tl : List Int) (k : Nat) (a : Int), lo.drop k = tl → 0 ≤ a ∧ a + 9 * (tl.length : Int) ≤ 1000 → Dj W 0 0 fo tl (k : Int) (Sd a) (List.replicate 36 0) = some (Sd (a + OC W lo tl.length k), List.replicate 36 0)
  | [], k, a, _, _ => by
    unfold Dj OC
    simp
  | x :: tl, k, a, hd, ha => by
    have hk : k < lo.length := by
      have := congrArg List.length hd
      rw [List.length_drop, List.length_cons] at this; omega
    have hx : lo.getD k 0 = x := by
      have := congrArg (fun l : List Int => l[0]?) hd
      simp only [List.getElem?_drop, Nat.add_zero, List.getElem?_cons_zero] at this
      rw [List.getD_eq_getElem?_getD, this]; rfl
    have aa : lo.drop (k + 1) = tl := by
      have := congrArg (List.drop 1) hd
      rwa [List.drop_drop, List.drop_succ_cons, List.drop_zero] at this
    have ad := h.lf
    have ae := h.ll
    have af := h.vf (fo.getD k 0) (by rw [List.getD_eq_getElem?_getD, List.getElem?_eq_getElem (by omega)]; exact List.getElem_mem _)
    have ah := h.wt (W.getD k 0) (by rw [List.getD_eq_getElem?_getD, List.getElem?_eq_getElem (by omega)]; exact List.getElem_mem _)
    unfold Dj
    rw [List.length_cons]
    unfold OC
    rw [hx]
    by_cases c : x = -1
    · rw [if_pos c, AZ, if_pos rfl, if_pos c]
      have := Ru h tl (k + 1) a aa (by rw [List.length_cons] at ha; omega)
      rw [show a + (0 + OC W lo tl.length (k + 1)) = a + OC W lo tl.length (k + 1) by omega]
      exact this
    · have ab := h.ag k (by omega) (by rw [hx]; exact c)
      rw [hx] at ab
      have t1 : (Sd a).getD 0 0 = a := rfl
      have t2 : ∀ b, (Sd a).set 0 b = Sd b := fun b => by unfold Sd; rw [List.set_set]
      have hz : ((0 : Int) * 6 + 0) = ((0 : Nat) : Int) := rfl
      have ih := Ru h tl (k + 1) (a + W.getD k 0) aa (by rw [List.length_cons] at ha; omega)
      rw [if_neg c, Q2 0 _ (by omega), AZ, if_neg (by rw [decide_eq_true_eq]; omega), if_neg c, Q2 0 _ (by omega), if_pos ab, Dn (by omega), Dn (by omega), hz, Q2 0 _ (by unfold Sd; simp), Q2 0 _ (by omega), t1, Dn (Cf (by omega)), Dn (by omega), Dn (by omega), QR, Int.toNat_natCast, t2]
      rw [show a + (W.getD k 0 + OC W lo tl.length (k + 1)) = a + W.getD k 0 + OC W lo tl.length (k + 1) by omega]
      exact ih
theorem TH (h : Re W lo fo) : Ia W 0 [lo] [fo] [5] = some (some (W, 0, [lo], [fo], [5], Sd (OC W lo W.length 0), List.replicate 36 0), 0) := by
  have hn := h.n
  have hl := h.ll
  have h3 := Ru h lo 0 0 rfl (by omega)
  have h0 : Sd 0 = List.replicate 36 0 := rfl
  rw [h0, Int.zero_add, hl] at h3
  have aa : Dj W 0 0 fo lo 0 (List.replicate 36 0) (List.replicate 36 0) = some (Sd (OC W lo W.length 0), List.replicate 36 0) := h3
  unfold Ia
  rw [Xh h, AZ, if_neg (by decide)]
  unfold Fj Fi
  rw [aa, D0]
  unfold Fi Fj
  rw [D0, D0]
variable {A : Int}
theorem RF {β : Type} (f : Int → Option β) : ix (Sd A) (0 * 6 + 0) f = f A := Q2 (i := 0) 0 f (by unfold Sd; simp)
theorem VE {β : Type} (f : Int → Option β) : ix (List.replicate 36 (0 : Int)) (0 * 6 + 0) f = f 0 := Q2 (i := 0) 0 f (by simp)
theorem XY (_hA : 0 ≤ A) : FG W 0 [lo] [fo] [5] (Sd A) (List.replicate 36 0) 0 0 = some (decide (0 < A)) := by
  unfold FG
  rw [Dn (by decide), Dn (by decide), RF]
  by_cases c : 0 < A
  · rw [if_pos c, Dn (by decide), Dn (by decide), VE, decide_eq_true c]; rfl
  · rw [if_neg c, decide_eq_false c]
theorem U2 (h : Re W lo fo) : IW W 0 [lo] [fo] [5] 0 0 = some (OC W lo W.length 0, 0, decide (0 < OC W lo W.length 0), 0) := by
  have hA := (PM (lo := lo) h.wt W.length 0 (by omega)).1
  unfold IW
  rw [TH h, D0, if_neg (by decide), RX]
  unfold Ir HT
  have hr : C6 ((1 : Int) - 1) := by unfold C6; decide
  have hd : ¬ (!decide (0 ≤ (0 : Int) ∧ (0 : Int) ≤ (1 : Int) - 1)) = true := by decide
  rw [Dn (show C6 (([lo].length : Int) - 1) from hr), H6, AZ, AZ, if_neg (show ¬ (!decide (0 ≤ (0 : Int) ∧ (0 : Int) ≤ (([lo].length : Int) - 1))) = true from hd), Dn (show C6 (([fo].length : Int) - 1) from hr), H6, AZ, AZ, AZ, if_neg (show ¬ (!decide (0 ≤ (0 : Int) ∧ (0 : Int) ≤ (([fo].length : Int) - 1))) = true from hd), RX, Dn (by decide), Dn (by decide), RF, Dn (by decide), Dn (by decide), VE, XY hA, AZ]
theorem Yg (hA : 0 ≤ A) : HJ W 0 [lo] [fo] [5] (Sd A) (List.replicate 36 0) 0 = some (if 0 < A then [0] else []) := by
  unfold HJ HR Dg
  rw [XY hA, AZ]
  unfold Dg
  by_cases c : 0 < A
  · rw [decide_eq_true c, if_pos rfl, if_pos c]; rfl
  · rw [decide_eq_false c, if_neg (by decide), if_neg c]; rfl
theorem Rb (fu : Nat) (used : Int) (x : List ((Int × Int) × (Int × Int × Int))) (NF : Int × Int → Option Int) : Da (fu + 1) (0 + 1) used W 0 [lo] [fo] [5] (Sd A) (List.replicate 36 0) x NF = some (-1, 0, 1, x) := by
  unfold Da Fl
  rw [if_pos (by simp)]
theorem WT (hA : 0 ≤ A ∧ A ≤ 1000) (fu : Nat) : Da (fu + 2) 0 0 W 0 [lo] [fo] [5] (Sd A) (List.replicate 36 0) [] (fun aa : Int × Int => D7 aa.1 aa.2 W 0 [lo] [fo] [5] (Sd A) (List.replicate 36 0)) = some (if 0 < A then (0 : Int) else -1, A, 1, [((0, 0), (if 0 < A then (0 : Int) else -1, A, 1))]) := by
  unfold Da Fl
  rw [if_neg (by simp), if_neg (by simp [Bm]), Dn (by unfold C6; decide), Rb, IG, Yg hA.1, AZ]
  by_cases c : 0 < A
  · rw [if_pos c, if_pos c]
    unfold BV
    rw [Dn (by decide), if_neg (by decide), Dn (by unfold C6; decide), Dn (by unfold C6; decide), Rb, IG]
    show b4 (b1 (D7 0 0 W 0 [lo] [fo] [5] (Sd A) (List.replicate 36 0)) _) _ = _
    unfold D7
    rw [Dn (by decide), Dn (by decide), RF, AZ, Dn (Cf (by omega)), if_pos (by omega)]
    unfold BV
    rw [IG, QR, Int.zero_add]
    rfl
  · rw [if_neg c, if_neg c]
    unfold BV
    rw [IG, QR, show A = 0 by omega]
    rfl
theorem WD (h : Re W lo fo) : ∃ l, JR W 0 [lo] [fo] [5] = some (l, OC W lo W.length 0, 0) := by
  obtain ⟨hA, aa, _⟩ := PM (lo := lo) h.wt W.length 0 (by omega)
  have hn := h.n
  have e := WT (W := W) (lo := lo) (fo := fo) (A := OC W lo W.length 0) ⟨hA, by omega⟩ (FU - 2)
  rw [show FU - 2 + 2 = FU by decide] at e
  unfold JR
  rw [TH h, D0, if_neg (by decide), RX]
  generalize OC W lo W.length 0 = A at *
  unfold HS Ip HW
  rw [AZ, e, IG, QR, AZ]
  by_cases c : 0 < A
  · rw [if_pos c]
    refine ⟨[0], ?_⟩
    show b1 (b1 (CN [((0, 0), ((0 : Int), A, (1 : Int)))] [lo] 0 [] 0) _) _ = _
    unfold CN
    show b1 (b1 (ap [] [(0 : Int)] _) _) _ = _
    rw [KH (by simp), AZ, AZ]
    unfold GC
    rw [List.nil_append]
    unfold CW
    rw [if_pos (by decide), Dn (by decide), Dn (by decide), RF, KH (by simp)]
    unfold CW
    rw [AZ, List.nil_append]
    unfold Ol Ie
    rw [Dn (Cf (by omega)), Int.zero_add]
    rfl
  · rw [if_neg c]
    refine ⟨[-1], ?_⟩
    obtain rfl : A = 0 := by omega
    show b1 (b1 (CN [((0, 0), ((-1 : Int), (0 : Int), (1 : Int)))] [lo] 0 [] 0) _) _ = _
    unfold CN
    show b1 (b1 (ap [] [(-1 : Int)] _) _) _ = _
    rw [KH (by simp), AZ, AZ]
    unfold GC
    rw [List.nil_append]
    unfold CW
    rw [if_neg (by decide)]
    rfl
end
end Go.Proofs.YtfmapnhfamoecaaGreat.Nt
namespace Go.Proofs.YtfmapnhfamoecaaGreat.Nt
open Go.PL Rv
def tv (x : Int) : Int := if x = 1 then 1 else if x = 2 then 0 else -1
theorem TF : ∀ (tl acc : List Int), (∀ x ∈ tl, x = 0 ∨ x = 1 ∨ x = 2) → acc.length + tl.length ≤ 1000 → B9 tl acc = some (acc ++ tl.map tv, true)
  | [], acc, _, _ => by
    unfold B9 Ek
    simp
  | x :: tl, acc, hx, ha => by
    simp only [List.length_cons] at ha
    have ih := fun y => TF tl (acc ++ [y]) (fun z hz => hx z (by simp [hz])) (by simp; omega)
    unfold B9
    rw [QR, QR, QR]
    rcases hx x (by simp) with rfl | rfl | rfl
    · rw [if_neg (by decide), KH (by simp; omega)]
      refine (ih _).trans ?_
      rw [List.append_assoc]; rfl
    · rw [if_neg (by decide), KH (by simp; omega)]
      refine (ih _).trans ?_
      rw [List.append_assoc]; rfl
    · rw [if_neg (by decide), KH (by simp; omega)]
      refine (ih _).trans ?_
      rw [List.append_assoc]; rfl
section
variable {ls hs : List (List Int)}
theorem Mp (ms : List Int) (i : Nat) : Rg ls ms i = 0 ∨ Rg ls ms i = 1 ∨ Rg ls ms i = 2 := by
  unfold Rg
  split
  · exact .inr (.inr rfl)
  · split
    · exact .inr (.inl rfl)
    · exact .inl rfl
def Ti (ls : List (List Int)) (ms : List Int) : List Int := (It ls ms).map tv
theorem RQ (ms : List Int) : (Ti ls ms).length = ls.length := by unfold Ti; rw [List.length_map, Ob]
theorem Ua {ms : List Int} {t : Nat} (ht : t < ls.length) : (Ti ls ms).getD t 0 = tv (Rg ls ms t) := by
  unfold Ti It
  rw [List.getD_eq_getElem?_getD, List.getElem?_map, List.getElem?_map, List.getElem?_range ht]
  rfl
theorem Wk {α : Type} (f : Nat → α) (d : α) {n t : Nat} (ht : t < n) : ((List.range n).map f).getD t d = f t := by
  rw [List.getD_eq_getElem?_getD, List.getElem?_map, List.getElem?_range ht]; rfl
theorem Wz {x : Int} (h : x = 0 ∨ x = 1 ∨ x = 2) : tv x ≠ -1 ↔ x ≠ 0 := by
  rcases h with rfl | rfl | rfl <;> decide
theorem Uo (g : GO ls hs) {s : List Nat} (he : JA ls hs s) : Cv ls hs = some (Ti ls (hs.getD 0 []), true) := by
  have h1 := g.h1
  have h6 := g.n6
  have hg : (hs.map (It ls)).getD 0 [] = It ls (hs.getD 0 []) := by
    rw [List.getD_eq_getElem?_getD, List.getElem?_map, List.getElem?_eq_getElem (by omega), List.getD_eq_getElem?_getD, List.getElem?_eq_getElem (by omega)]; rfl
  have hi : ∀ {β : Type} (f : List Int → Option β), ix (hs.map (It ls)) 0 f = f (It ls (hs.getD 0 [])) := fun f => by
    rw [← hg]; exact Q2 (i := 0) [] f (by rw [List.length_map]; omega)
  unfold Cv
  rw [SM g he, D0, if_neg (by decide), if_neg (by rw [List.length_map]; simp), hi, AZ, if_neg (by rw [Ob]; simp), hi, TF _ _ (fun x hx => by
    unfold It at hx
    obtain ⟨i, _, rfl⟩ := List.mem_map.1 hx
    exact Mp _ _) (by rw [Ob]; simp; omega), List.nil_append]
  rfl
def Rz (n : Nat) : List Int := (List.range n).map fun m : Nat => 1 + (m : Int)
def UT (a n : Nat) : List Int := (List.range n).map fun m => if a.testBit m = true then 1 else 0
theorem Vx {a : Nat} {s : List Nat} (ha : a < 64) : ∀ (tl : List (List Int)) (k : Nat), k + tl.length ≤ 60 → Cl (K5 (a :: s)) tl (k : Int) (Rz k) (UT a k) = some (Rz (k + tl.length), UT a (k + tl.length))
  | [], k, _ => rfl
  | x :: tl, k, hk => by
    simp only [List.length_cons] at hk
    have ih := Vx (s := s) ha tl (k + 1) (by omega)
    have e1 : Rz (k + 1) = Rz k ++ [1 + (k : Int)] := by unfold Rz; rw [List.range_succ, List.map_append]; rfl
    have e2 : UT a (k + 1) = UT a k ++ [Fa (shr (a : Int) (k : Int)) 1] := by
      unfold UT; rw [List.range_succ, List.map_append, PK (by omega)]; rfl
    rw [e1, e2] at ih
    have hi : ∀ {β : Type} (f : Int → Option β), ix (K5 (a :: s)) 0 f = f (a : Int) := fun f => Q2 (i := 0) 0 f (by simp [K5])
    unfold Cl
    rw [hi, Dn (Cf (by omega)), Dn (by omega), KH (by unfold Rz; simp; omega), KH (by unfold UT; simp; omega), List.length_cons, show k + (tl.length + 1) = k + 1 + tl.length by omega]
    exact ih
theorem TX (g : GO ls hs) (h5 : ls.length ≤ 5) {ms : List Int} {a : Nat} (ha : a ∈ HQ ls ms) : Re (Rz ls.length) (Ti ls ms) (UT a ls.length) := by
  have h1 := g.n1
  have hl : (Rz ls.length).length = ls.length := by unfold Rz; simp
  refine ⟨by omega, by rw [RQ, hl], by rw [hl]; unfold UT; simp, fun x hx => ?_, fun x hx => ?_, fun x hx => ?_, fun t ht hn => ?_⟩
  · unfold Rz at hx
    obtain ⟨i, i1, rfl⟩ := List.mem_map.1 hx
    have := List.mem_range.1 i1
    omega
  · unfold Ti at hx
    obtain ⟨y, _, rfl⟩ := List.mem_map.1 hx
    unfold tv
    split
    · omega
    · split <;> omega
  · unfold UT at hx
    obtain ⟨i, _, rfl⟩ := List.mem_map.1 hx
    split <;> omega
  · rw [hl] at ht
    rw [Ua ht] at hn ⊢
    have h0 := (Wz (Mp ms t)).1 hn
    have hf : (UT a ls.length).getD t 0 = if a.testBit t = true then 1 else 0 := by unfold UT; rw [Wk _ _ ht]
    rw [hf]
    rcases Mp (ls := ls) ms t with e | e | e
    · exact absurd e h0
    · rw [e, if_pos (Q7 ha e)]; rfl
    · rw [e, if_neg (SC ha e)]; rfl
theorem VW {ms : List Int} {i a b : Nat} {m : Int} (hm : m = if (Kx ls a).testBit i = true then 1 else 2) (hk : ∀ x ∈ ms, 0 ≤ x ∧ x ≤ 2) (ha : a ∈ HQ ls ms) (hb : b ∈ HQ ls (ms.set i m)) : b ∈ HQ ls ms := by
  rw [Mc] at ha hb ⊢
  refine ⟨hb.1, La.2 fun j m' hj => ?_⟩
  by_cases e : i = j
  · subst e
    have hi : i < ms.length := by
      obtain ⟨h, _⟩ := List.getElem?_eq_some_iff.1 hj
      exact h
    have h1 := La.1 ha.2 i m' hj
    have h2 := La.1 hb.2 i m (by rw [List.getElem?_set_self hi])
    have h3 := hk m' (List.mem_of_getElem? hj)
    unfold Jj at h1 h2 ⊢
    have h4 : m' = 0 ∨ m' = 1 ∨ m' = 2 := by omega
    rcases h4 with rfl | rfl | rfl
    · simp
    · cases hc : (Kx ls a).testBit i with
      | true => rw [hc, if_pos rfl] at hm; subst hm; exact h2
      | false => rw [hc] at h1; simp at h1
    · cases hc : (Kx ls a).testBit i with
      | true => rw [hc] at h1; simp at h1
      | false => rw [hc, if_neg (by decide)] at hm; subst hm; exact h2
  · exact La.1 hb.2 j m' (by rw [List.getElem?_set_ne e]; exact hj)
theorem U0 {ms : List Int} {i a : Nat} {m : Int} (hm : m = if (Kx ls a).testBit i = true then 1 else 2) (ha : a ∈ HQ ls ms) : a ∈ HQ ls (ms.set i m) := by
  rw [Mc] at ha ⊢
  refine ⟨ha.1, La.2 fun j m' hj => ?_⟩
  by_cases e : i = j
  · subst e
    have hi : i < ms.length := by
      obtain ⟨h, _⟩ := List.getElem?_eq_some_iff.1 hj
      rw [List.length_set] at h; exact h
    rw [List.getElem?_set_self hi] at hj
    obtain rfl := Option.some.inj hj
    unfold Jj
    cases hc : (Kx ls a).testBit i with
    | true => rw [hc, if_pos rfl] at hm; subst hm; rfl
    | false => rw [hc, if_neg (by decide)] at hm; subst hm; rfl
  · rw [List.getElem?_set_ne e] at hj
    exact La.1 ha.2 j m' hj
theorem VB {ms aa : List Int} {t a : Nat} (hs : ∀ b, b ∈ HQ ls aa → b ∈ HQ ls ms) (ha : a ∈ HQ ls aa) (h : Rg ls ms t ≠ 0) : Rg ls aa t ≠ 0 := by
  rcases Mp (ls := ls) ms t with e | e | e
  · exact absurd e h
  · have h1 : ∀ b ∈ HQ ls aa, b.testBit t = true := fun b hb => Q7 (hs b hb) e
    unfold Rg
    rw [if_neg (by rw [Bool.not_eq_false, List.any_eq_true]; exact ⟨a, ha, h1 a ha⟩), if_pos (List.all_eq_true.2 h1)]
    decide
  · have h1 : ∀ b ∈ HQ ls aa, ¬ b.testBit t = true := fun b hb => SC (hs b hb) e
    unfold Rg
    rw [if_pos (List.any_eq_false.2 h1)]
    decide
theorem Qz {numbers : List Int} (hm : (numbers.length : Int) ≤ 9223372036854775807) {aa : Int} (hw : 0 ≤ aa ∧ aa < 256) : Eu numbers aa = some true := by
  unfold Eu JL
  obtain ⟨ls, hs, s, a', t', e1, g, he, h5, _, _⟩ := VT (metal := numbers) (a := 0) (t := 0) (men := 5) (hours := 3) ⟨by omega, by omega⟩ hm (by omega) (by omega)
  have n1 := g.n1
  have n6 := g.n6
  have av := g.h1
  rw [D6, e1, TY]
  cases s with
  | nil => have := he.len; simp at this; omega
  | cons a s =>
  cases hs with
  | nil => simp at av
  | cons ms hs =>
  have ha : a ∈ HQ ls ms := Mc.2 he.1
  have aw : a < 2 ^ ls.length := he.1.1
  have hp := IA n6
  have ao := Vx (s := s) (a := a) (by omega) ls 0 (by omega)
  rw [Nat.zero_add] at ao
  have ae : Cl (K5 (a :: s)) ls 0 [] [] = some (Rz ls.length, UT a ls.length) := ao
  have hD := TX g (by omega) ha
  have ax : ∀ x ∈ ms, 0 ≤ x ∧ x ≤ 2 := g.X9 ms (by simp)
  have ay : ms.length = ls.length := g.wid ms (by simp)
  have az : (Rz ls.length).length = ls.length := by unfold Rz; simp
  have ba : Cv ls (ms :: hs) = some (Ti ls ms, true) := Uo g he
  rw [ae, D0, ba, D0, if_neg (by decide)]
  obtain ⟨l7, hB⟩ := WD hD
  have af : BD (Ti ls ms) (fun ah : Int => Dm ah) = some (decide (0 < OC (Rz ls.length) (Ti ls ms) (Rz ls.length).length 0)) := by
    rw [contains_eq (f := fun ah : Int => Dm ah) (g := fun x => decide (x ≠ -1)) (fun x _ => rfl)]
    congr 1
    rw [Bool.eq_iff_iff, decide_eq_true_iff, List.any_eq_true, (PM hD.wt _ 0 (by omega)).2.2]
    constructor
    · rintro ⟨x, x1, x2⟩
      obtain ⟨t, t1, t2⟩ := List.getElem_of_mem x1
      have ht : t < ls.length := by rw [RQ] at t1; exact t1
      refine ⟨t, Nat.zero_le _, by omega, ?_⟩
      rw [List.getD_eq_getElem?_getD, List.getElem?_eq_getElem t1, Option.getD_some, t2]
      simpa using x2
    · rintro ⟨t, _, t1, t2⟩
      have ht : t < (Ti ls ms).length := by rw [RQ]; omega
      refine ⟨(Ti ls ms).getD t 0, ?_, by simpa using t2⟩
      rw [List.getD_eq_getElem?_getD, List.getElem?_eq_getElem ht]; exact List.getElem_mem _
  rw [U2 hD, IG, hB, D6, af, AZ, if_neg (by decide), if_neg (by decide), if_neg (by decide), if_neg (fun h => h rfl), AZ, if_neg (by simp)]
  have ad : 0 ≤ Int.tmod aa (ls.length : Int) ∧ Int.tmod aa (ls.length : Int) < (ls.length : Int) := by
    rw [Int.tmod_eq_emod_of_nonneg hw.1]
    exact ⟨Int.emod_nonneg _ (by omega), Int.emod_lt_of_pos _ (by omega)⟩
  have bb : ∀ {β : Type} (f : Int → Option β), ix (K5 (a :: s)) 0 f = f (a : Int) := fun f => Q2 (i := 0) 0 f (by simp [K5])
  rw [Dn (Cf (by omega)), Dn (by omega), QR, bb, Vt g aw, D0]
  generalize bj : Int.tmod aa (ls.length : Int) = mi at ad ⊢
  obtain ⟨i, rfl⟩ := Int.eq_ofNat_of_zero_le ad.1
  have hi : i < ls.length := by omega
  have aq : Kx ls a < 9223372036854775808 := by have := RK ls a; omega
  have ai : (gd (0 ≤ (i : Int) ∧ (i : Int) < 64) <| if (Fa (shr ((Kx ls a : Nat) : Int) (i : Int)) 1) = 1 then (some (1 : Int)) else (some 2)) = some (if (Kx ls a).testBit i = true then (1 : Int) else 2) := by
    rw [Dn (by omega)]
    by_cases c : (Kx ls a).testBit i = true
    · rw [if_pos ((Jf aq i).2 c), if_pos c]
    · rw [if_neg (fun h => c ((Jf aq i).1 h)), if_neg c]
  show b1 (gd (0 ≤ (i : Int) ∧ (i : Int) < 64) <| if (Fa (shr ((Kx ls a : Nat) : Int) (i : Int)) 1) = 1 then (some (1 : Int)) else (some 2)) _ = _
  rw [ai, AZ]
  generalize aj : (if (Kx ls a).testBit i = true then (1 : Int) else 2) = m
  have ar : 0 ≤ m ∧ m ≤ 2 := by rw [← aj]; split <;> omega
  have g2 := g.Mn (h := 0) (by simp) i ar
  have ak := U0 aj.symm ha
  have bc : JA ls (Mn (ms :: hs) 0 i m) (a :: s) := ⟨Mc.1 ak, he.2⟩
  have hW := Wa g (h := 0) (i := i) (by simp) hi ar
  have bd : I6 ls (ms :: hs) 0 (i : Int) m = some (ls, Mn (ms :: hs) 0 i m, 0) := hW
  have al : Cv ls (Mn (ms :: hs) 0 i m) = some (Ti ls (ms.set i m), true) := Uo g2 bc
  rw [bd, D6, al, D0, if_neg (by decide), if_neg (by decide), AZ, if_neg (by decide)]
  have au := TX g2 (by omega) ak
  obtain ⟨bk, bg⟩ := WD au
  have ab : OC (Rz ls.length) (Ti ls ms) (Rz ls.length).length 0 ≤ OC (Rz ls.length) (Ti ls (ms.set i m)) (Rz ls.length).length 0 := Sj hD.wt (fun t ht h => by
    rw [az] at ht
    rw [Ua ht] at h ⊢
    rw [Wz (Mp _ _)] at h ⊢
    exact VB (fun b hb => VW aj.symm ax ha hb) ak h) _ _ (by omega)
  rw [U2 au, IG, bg, D6, if_pos rfl, if_pos rfl, if_pos rfl, if_pos ab, if_pos ab, UR, AZ]
end
end Go.Proofs.YtfmapnhfamoecaaGreat.Nt
