/- What a book that is blown from a town tells; BookBlown; in plain Lean. -/
import Derived.Test.YtodhcoakjlmcdaaGreatZBKM
namespace Go.Proofs.YtodhcoakjlmcdaaGreat.Bk
open Go.PL Go.Hear
theorem blown_l11 (a t : Int) : ∀ (fu : Nat) (rs : List Int), rs.length + fu ≤ 1000 → oyezlaw07_BookBlown_l11 a t fu rs = some (a, t, rs ++ List.replicate fu (-1))
  | 0, rs, _ => by unfold oyezlaw07_BookBlown_l11; simp
  | fu + 1, rs, h => by
    unfold oyezlaw07_BookBlown_l11
    rw [ap_t (by simp; omega), blown_l11 a t fu _ (by simp; omega)]
    simp [List.replicate_succ]
section
variable {metal st rs : List Int}
/-- A cry that is blown. -/
def CryP (st rs : List Int) (c : Int × Int × Int) : Prop := (0 ≤ c.1 ∧ c.1 < (rs.length : Int)) ∧ (0 ≤ c.2.1 ∧ c.2.1 < (st.length : Int)) ∧ c.2.2 = 0
theorem blown_l12 (hm : (metal.length : Int) ≤ 9223372036854775807) (hs : 1 ≤ st.length ∧ st.length ≤ 4) (hr : 1 ≤ rs.length ∧ rs.length ≤ 4) : ∀ (fu : Nat) (a t : Int) (cs : List (Int × Int × Int)), BellA metal a → cs.length + fu ≤ 100 → (∀ c ∈ cs, CryP st rs c) →
    ∃ cs', oyezlaw07_BookBlown_l12 metal st rs fu a t cs = some cs' ∧ cs'.length = cs.length + fu ∧ ∀ c ∈ cs', CryP st rs c
  | 0, a, t, cs, _, _, hc => ⟨cs, rfl, rfl, hc⟩
  | fu + 1, a, t, cs, ha, hl, hc => by
    unfold oyezlaw07_BookBlown_l12
    obtain ⟨n7, a7, t7, e1, h1, h2, h3⟩ := stroke_ok (t := t) (n := (rs.length : Int) - 1) ha hm (by omega)
    obtain ⟨n8, a8, t8, e2, g1, g2, g3⟩ := stroke_ok (t := t7) (n := (st.length : Int) - 1) h3 hm (by omega)
    rw [gd_t (r64_small (by omega)), gd_t (r64_small (by omega)), e1, b3_some, e2, b3_some, ap_t (by simp; omega)]
    obtain ⟨cs', f1, f2, f3⟩ := blown_l12 hm hs hr fu a8 t8 (cs ++ [(n7, n8, 0)]) g3 (by simp; omega) (fun c hx => by
      rcases List.mem_append.1 hx with h | h
      · exact hc c h
      · rw [List.mem_singleton.1 h]; exact ⟨⟨h1, by show n7 < _; omega⟩, ⟨g1, by show n8 < _; omega⟩, rfl⟩)
    exact ⟨cs', f1, by rw [f2, List.length_append, List.length_singleton]; omega, f3⟩
end
def l4 (b c d e : Bool) : List Int := (if b = true then [1] else []) ++ ((if c = true then [2] else []) ++ ((if d = true then [3] else []) ++ (if e = true then [4] else [])))
def l5 (a b c d e : Bool) : List Int := (if a = true then [0] else []) ++ l4 b c d e
theorem del_l5 : ∀ a b c d e : Bool, slices_DeleteFunc_hear_Dir_hear_Dir (l5 a b c d e) (fun xx_ : Int => oyezlaw07_BookBlown_1 xx_) = some (l4 b c d e) := by decide +kernel
theorem wndF_l5 (P : Int → Bool) : wndF P 5 0 = l5 (P 0) (P 1) (P 2) (P 3) (P 4) := by
  have e1 : (0 : Int) + 1 = 1 := rfl
  have e2 : (1 : Int) + 1 = 2 := rfl
  have e3 : (2 : Int) + 1 = 3 := rfl
  have e4 : (3 : Int) + 1 = 4 := rfl
  unfold wndF wndF wndF wndF wndF wndF l5 l4
  rw [e1, e2, e3, e4]
  cases P 0 <;> cases P 1 <;> cases P 2 <;> cases P 3 <;> cases P 4 <;> rfl
theorem l4_four : ∀ b c d e : Bool, decide (((l4 b c d e).length : Int) = 4) = (b && c && d && e) := by decide
theorem l4_any : ∀ b c d e : Bool, decide (0 < ((l4 b c d e).length : Int)) = (b || c || d || e) := by decide
section
variable {wide : Int} {ps : List Int} {v : Int}
theorem wnd_hr (hc : chk wide ps = 0) {s p w : Int} (hs : Kd ps 0 s) (hp : Kd ps 1 p) (hw : 0 ≤ w ∧ w ≤ 4) : wndP wide ps v s p w = hrB wide ps w v s.toNat p.toNat := by
  have ho : openE wide ps w = 0 := openE_of hc hw
  have h1 : standE wide ps w s = 0 := standE_of ho hs.1 hs.2
  have h2 := tab_ge (tb_ok ho hs.1) (q := p) hp.1
  unfold wndP hrB needV needE
  rw [if_neg (not_not_intro h1), if_neg (by have := hp.1; omega), hs.2, hp.2, show ((s.toNat : Nat) : Int) = s from Int.toNat_of_nonneg hs.1.1]
  by_cases h : (tb wide ps w s).getD p.toNat 0 = -1
  · rw [if_pos h, h]; simp
  · have h3 : 0 ≤ (tb wide ps w s).getD p.toNat 0 := by omega
    rw [if_neg h, if_pos rfl]
    simp only [h3, true_and, decide_true, Bool.true_and]
theorem winds_in (hn : ps.length ≤ 1000) (hc : chk wide ps = 0) (hv : 1 ≤ v ∧ v ≤ 40) {s p : Int} (hs : Kd ps 0 s) (hp : Kd ps 1 p) :
    ∃ l, hear_Winds wide ps v s p = some (l, 0) ∧ slices_DeleteFunc_hear_Dir_hear_Dir l (fun xx_ : Int => oyezlaw07_BookBlown_1 xx_) = some (l4 (hrB wide ps 1 v s.toNat p.toNat) (hrB wide ps 2 v s.toNat p.toNat) (hrB wide ps 3 v s.toNat p.toNat) (hrB wide ps 4 v s.toNat p.toNat)) := by
  have h1 : wndE wide ps v s p = 0 := by
    unfold wndE chkA
    rw [if_neg (not_not_intro hc), if_neg, if_neg, isE_of hp.1 hp.2]
    · exact not_not_intro (isE_of hs.1 hs.2)
    · refine not_not_intro (if_neg ?_)
      rintro (h | h)
      · exact h ⟨by omega, by omega⟩
      · exact h hv
  refine ⟨_, by rw [Winds_eq hn, if_pos h1, h1], ?_⟩
  rw [wndF_l5, del_l5, wnd_hr hc hs hp (by omega), wnd_hr hc hs hp (by omega), wnd_hr hc hs hp (by omega), wnd_hr hc hs hp (by omega)]
/-- A house hears a stand in all winds; in some. -/
def allW (wide : Int) (ps st : List Int) (v p : Int) (c : Int × Int × Int) : Bool :=
  hrB wide ps 1 v (st.getD c.2.1.toNat 0).toNat p.toNat && hrB wide ps 2 v (st.getD c.2.1.toNat 0).toNat p.toNat && hrB wide ps 3 v (st.getD c.2.1.toNat 0).toNat p.toNat && hrB wide ps 4 v (st.getD c.2.1.toNat 0).toNat p.toNat
def anyW (wide : Int) (ps st : List Int) (v p : Int) (c : Int × Int × Int) : Bool :=
  hrB wide ps 1 v (st.getD c.2.1.toNat 0).toNat p.toNat || hrB wide ps 2 v (st.getD c.2.1.toNat 0).toNat p.toNat || hrB wide ps 3 v (st.getD c.2.1.toNat 0).toNat p.toNat || hrB wide ps 4 v (st.getD c.2.1.toNat 0).toNat p.toNat
variable {st rs ho : List Int}
theorem blown_l17 (hn : ps.length ≤ 1000) (hc : chk wide ps = 0) (hv : 1 ≤ v ∧ v ≤ 40) (hst : ∀ s ∈ st, Kd ps 0 s) {p : Int} (hp : Kd ps 1 p) {T : List (List Int)} {k : Int} {rec14 : Int → Option Bool} : ∀ (cs : List (Int × Int × Int)) (a s : Bool), (∀ c ∈ cs, CryP st rs c) →
    oyezlaw07_BookBlown_l17 wide ps v st T k p rec14 cs a s = oyezlaw07_BookBlown_j16 T k rec14 (a || cs.any (allW wide ps st v p)) (s || cs.any (anyW wide ps st v p))
  | [], a, s, _ => by unfold oyezlaw07_BookBlown_l17; simp
  | c :: cs, a, s, h => by
    have h1 := h c (by simp)
    have ih := fun a s => blown_l17 hn hc hv hst hp (T := T) (k := k) (rec14 := rec14) cs a s fun c hx => h c (by simp [hx])
    have hx : Kd ps 0 (st.getD c.2.1.toNat 0) := hst _ (getD_mem (by have := h1.2.1; omega))
    obtain ⟨l, e1, e2⟩ := winds_in hn hc hv hx hp
    unfold oyezlaw07_BookBlown_l17
    rw [ixD 0 _ h1.2.1.1 h1.2.1.2, e1, b2_some, if_neg (by decide), e2, b1_some, l4_four, l4_any, ih, ih, ih, ih, List.any_cons, List.any_cons]
    cases a <;> cases s <;> simp [allW, anyW, Bool.or_assoc, Bool.and_assoc]
theorem mem_both {a b : List Int} {x : Int} : x ∈ both a b ↔ x ∈ a ∧ x ∈ b := by
  unfold both; rw [List.mem_filter, decide_eq_true_iff]
theorem mem_evA (hho : ∀ p ∈ ho, Kd ps 1 p) {s w : Int} {k : Nat} (hk : k < ho.length) : (k : Int) ∈ evA wide ps ho v s w ↔ hrB wide ps w v s.toNat (ho.getD k 0).toNat = true := by
  have h1 := hho _ (getD_mem (d := 0) hk)
  unfold evA
  rw [lstN_mem, Int.toNat_natCast, decide_eq_true_iff, lstN_mem]
  have := h1.1
  constructor
  · intro h; exact h.2.2
  · intro h; exact ⟨⟨by omega, by omega⟩, ⟨this, h⟩⟩
theorem wnA_all {s x : Int} (h1 : x ∈ evA wide ps ho v s 1) (h2 : x ∈ evA wide ps ho v s 2) (h3 : x ∈ evA wide ps ho v s 3) (h4 : x ∈ evA wide ps ho v s 4) {w : Int} (hw : 0 ≤ w ∧ w ≤ 7) : x ∈ (wnA wide ps ho v s).getD w.toNat [] := by
  have h : w.toNat = 0 ∨ w.toNat = 1 ∨ w.toNat = 2 ∨ w.toNat = 3 ∨ w.toNat = 4 ∨ w.toNat = 5 ∨ w.toNat = 6 ∨ w.toNat = 7 := by omega
  rcases h with h | h | h | h | h | h | h | h <;> rw [h]
  · exact h1
  · exact mem_both.2 ⟨h1, h2⟩
  · exact h2
  · exact mem_both.2 ⟨h2, h3⟩
  · exact h3
  · exact mem_both.2 ⟨h3, h4⟩
  · exact h4
  · exact mem_both.2 ⟨h4, h1⟩
theorem wnA_any {s x : Int} {w : Int} (hw : 0 ≤ w ∧ w ≤ 7) (hx : x ∈ (wnA wide ps ho v s).getD w.toNat []) : x ∈ evA wide ps ho v s 1 ∨ x ∈ evA wide ps ho v s 2 ∨ x ∈ evA wide ps ho v s 3 ∨ x ∈ evA wide ps ho v s 4 := by
  have h : w.toNat = 0 ∨ w.toNat = 1 ∨ w.toNat = 2 ∨ w.toNat = 3 ∨ w.toNat = 4 ∨ w.toNat = 5 ∨ w.toNat = 6 ∨ w.toNat = 7 := by omega
  rcases h with h | h | h | h | h | h | h | h <;> rw [h] at hx
  · exact .inl hx
  · exact .inl (mem_both.1 hx).1
  · exact .inr (.inl hx)
  · exact .inr (.inl (mem_both.1 hx).1)
  · exact .inr (.inr (.inl hx))
  · exact .inr (.inr (.inl (mem_both.1 hx).1))
  · exact .inr (.inr (.inr hx))
  · exact .inr (.inr (.inr (mem_both.1 hx).1))
theorem cell_map {s w : Int} (hs : 0 ≤ s ∧ s < (st.length : Int)) : cell (st.map (wnA wide ps ho v)) s w = (wnA wide ps ho v (st.getD s.toNat 0)).getD w.toNat [] := by
  unfold cell
  have h1 : s.toNat < st.length := by omega
  have h2 : (st.map (wnA wide ps ho v)).getD s.toNat [] = wnA wide ps ho v (st.getD s.toNat 0) := by
    rw [List.getD_eq_getElem?_getD, List.getElem?_map, getD_of (d := 0) h1]; rfl
  rw [h2]
theorem fit_const {w : Int} (hw : 0 ≤ w ∧ w ≤ 7) : ∀ (m : Nat) (p : Option Int), (∀ u, p = some u → u = w) → FitF p (List.replicate m (-1)) (List.replicate m w)
  | 0, _, _ => trivial
  | m + 1, p, hp => ⟨hw, by unfold canB; rfl, fun u hu => by rw [hp u hu]; exact near_refl w, fit_const hw m (some w) fun u hu => (Option.some.inj hu).symm⟩
theorem blown_ok (hst : 1 ≤ st.length ∧ st.length ≤ 4) (hho : 1 ≤ ho.length ∧ ho.length ≤ 6) {m : Nat} (hm : 1 ≤ m ∧ m ≤ 4) {cs : List (Int × Int × Int)} (hcs : cs.length ≤ 3) (hc : ∀ c ∈ cs, CryP st (List.replicate m (-1)) c) : BOK (ho.length : Int) 2 (st.map (wnA wide ps ho v)) (List.replicate m (-1)) cs where
  hn := by omega
  hn2 := by omega
  hh := by rw [List.length_map]; exact hst
  hr := by rw [List.length_replicate]; omega
  hc := by omega
  h8 := fun w hw => by
    obtain ⟨s, _, rfl⟩ := List.mem_map.1 hw; rfl
  hl := fun w hw l hl => by
    obtain ⟨s, _, rfl⟩ := List.mem_map.1 hw
    have ev : ∀ u, (evA wide ps ho v s u).Nodup ∧ ∀ x ∈ evA wide ps ho v s u, 0 ≤ x ∧ x < (ho.length : Int) := fun u => ⟨lstN_nodup .., fun x hx => (lstN_mem.1 hx).1⟩
    have bo : ∀ u u', (both (evA wide ps ho v s u) (evA wide ps ho v s u')).Nodup ∧ ∀ x ∈ both (evA wide ps ho v s u) (evA wide ps ho v s u'), 0 ≤ x ∧ x < (ho.length : Int) := fun u u' => ⟨List.Pairwise.filter _ (ev u).1, fun x hx => (ev u).2 x (mem_both.1 hx).1⟩
    unfold wnA at hl
    simp only [List.mem_cons, List.not_mem_nil, or_false] at hl
    rcases hl with rfl | rfl | rfl | rfl | rfl | rfl | rfl | rfl
    · exact ev 1
    · exact bo 1 2
    · exact ev 2
    · exact bo 2 3
    · exact ev 3
    · exact bo 3 4
    · exact ev 4
    · exact bo 4 1
  rr := fun r hr => by rw [List.eq_of_mem_replicate hr]; omega
  cc := fun c hx => by
    have := hc c hx
    exact ⟨this.1, by rw [List.length_map]; exact this.2.1, by rw [this.2.2]; omega⟩
theorem blown_verd {m : Nat} {cs : List (Int × Int × Int)} (hm : 1 ≤ m) (hho : ∀ p ∈ ho, Kd ps 1 p) (hc : ∀ c ∈ cs, CryP st (List.replicate m (-1)) c) {k : Nat} (hk : k < ho.length) {y : Int} (hy : VerdP (st.map (wnA wide ps ho v)) (List.replicate m (-1)) cs (k : Int) 0 y) :
    (cs.any (allW wide ps st v (ho.getD k 0)) = true → y = 1) ∧ (cs.any (anyW wide ps st v (ho.getD k 0)) = false ↔ y = 2) := by
  have hA : cs.any (allW wide ps st v (ho.getD k 0)) = true → ∀ c, FitF none (List.replicate m (-1)) c → heardB (st.map (wnA wide ps ho v)) cs c (k : Int) 0 = true := by
    intro h c hf
    obtain ⟨x, hx, h1⟩ := List.any_eq_true.1 h
    have hcx := hc x hx
    unfold allW at h1
    simp only [Bool.and_eq_true] at h1
    unfold heardB
    refine List.any_eq_true.2 ⟨x, hx, ?_⟩
    rw [decide_eq_true hcx.2.2, Bool.true_and, decide_eq_true_iff, cell_map hcx.2.1]
    have hlen := hf.len
    have hr := hf.rng _ (getD_mem (d := 0) (i := x.1.toNat) (by have := hcx.1; omega))
    exact wnA_all ((mem_evA hho hk).2 h1.1.1.1) ((mem_evA hho hk).2 h1.1.1.2) ((mem_evA hho hk).2 h1.1.2) ((mem_evA hho hk).2 h1.2) hr
  have hB : cs.any (anyW wide ps st v (ho.getD k 0)) = true → ∃ c, FitF none (List.replicate m (-1)) c ∧ heardB (st.map (wnA wide ps ho v)) cs c (k : Int) 0 = true := by
    intro h
    obtain ⟨x, hx, h1⟩ := List.any_eq_true.1 h
    have hcx := hc x hx
    have key : ∀ (w : Int) (_ : 0 ≤ w ∧ w ≤ 7), (k : Int) ∈ (wnA wide ps ho v (st.getD x.2.1.toNat 0)).getD w.toNat [] → ∃ c, FitF none (List.replicate m (-1)) c ∧ heardB (st.map (wnA wide ps ho v)) cs c (k : Int) 0 = true := by
      intro w hw hmem
      refine ⟨List.replicate m w, fit_const hw m none (fun u hu => nomatch hu), ?_⟩
      unfold heardB
      refine List.any_eq_true.2 ⟨x, hx, ?_⟩
      have h2 := hcx.1
      rw [List.length_replicate] at h2
      rw [decide_eq_true hcx.2.2, Bool.true_and, decide_eq_true_iff, cell_map hcx.2.1, show (List.replicate m w).getD x.1.toNat 0 = w from by rw [List.getD_eq_getElem?_getD, List.getElem?_replicate, if_pos (by omega)]; rfl]
      exact hmem
    unfold anyW at h1
    simp only [Bool.or_eq_true] at h1
    rcases h1 with ((h1 | h1) | h1) | h1
    · exact key 0 (by omega) ((mem_evA hho hk).2 h1)
    · exact key 2 (by omega) ((mem_evA hho hk).2 h1)
    · exact key 4 (by omega) ((mem_evA hho hk).2 h1)
    · exact key 6 (by omega) ((mem_evA hho hk).2 h1)
  have hC : cs.any (anyW wide ps st v (ho.getD k 0)) = false → ∀ c, FitF none (List.replicate m (-1)) c → heardB (st.map (wnA wide ps ho v)) cs c (k : Int) 0 = false := by
    intro h c hf
    refine Bool.eq_false_iff.2 fun h1 => ?_
    unfold heardB at h1
    obtain ⟨x, hx, h2⟩ := List.any_eq_true.1 h1
    have hcx := hc x hx
    rw [Bool.and_eq_true, decide_eq_true_iff, decide_eq_true_iff, cell_map hcx.2.1] at h2
    have hlen := hf.len
    have hr := hf.rng _ (getD_mem (d := 0) (i := x.1.toNat) (by have := hcx.1; omega))
    have h3 := wnA_any hr h2.2
    rw [mem_evA hho hk, mem_evA hho hk, mem_evA hho hk, mem_evA hho hk] at h3
    have h4 : cs.any (anyW wide ps st v (ho.getD k 0)) = true := by
      refine List.any_eq_true.2 ⟨x, hx, ?_⟩
      unfold anyW
      simp only [Bool.or_eq_true]
      rcases h3 with h3 | h3 | h3 | h3
      · exact .inl (.inl (.inl h3))
      · exact .inl (.inl (.inr h3))
      · exact .inl (.inr h3)
      · exact .inr h3
    rw [h4] at h; cases h
  have hex : FitF none (List.replicate m (-1)) (List.replicate m 0) := fit_const (by omega) m none (fun u hu => nomatch hu)
  refine ⟨fun h => ?_, fun h => ?_, fun h => ?_⟩
  · rcases hy with ⟨h1, _⟩ | ⟨_, h2⟩ | ⟨_, _, c, h2, h3⟩
    · exact h1
    · have := hA h _ hex; rw [h2 _ hex] at this; cases this
    · have := hA h c h2; rw [h3] at this; cases this
  · rcases hy with ⟨_, h2⟩ | ⟨h1, _⟩ | ⟨_, ⟨c, h2, h3⟩, _⟩
    · have := hC h _ hex; rw [h2 _ hex] at this; cases this
    · exact h1
    · have := hC h c h2; rw [h3] at this; cases this
  · refine Bool.eq_false_iff.2 fun h1 => ?_
    obtain ⟨c, h2, h3⟩ := hB h1
    rcases hy with ⟨h4, _⟩ | ⟨_, h4⟩ | ⟨h4, _⟩
    · omega
    · rw [h4 c h2] at h3; cases h3
    · omega
theorem blown_never {m : Nat} {cs : List (Int × Int × Int)} (hc : ∀ c ∈ cs, CryP st (List.replicate m (-1)) c) {k y : Int} (hy : VerdP (st.map (wnA wide ps ho v)) (List.replicate m (-1)) cs k 1 y) : y = 2 := by
  have hf : ∀ c, heardB (st.map (wnA wide ps ho v)) cs c k 1 = false := fun c => by
    refine Bool.eq_false_iff.2 fun h1 => ?_
    unfold heardB at h1
    obtain ⟨x, hx, h2⟩ := List.any_eq_true.1 h1
    have hcx := (hc x hx).2.2
    rw [Bool.and_eq_true, decide_eq_true_iff, hcx] at h2
    exact absurd h2.1 (by decide)
  have hex : FitF none (List.replicate m (-1)) (List.replicate m 0) := fit_const (by omega) m none (fun u hu => nomatch hu)
  rcases hy with ⟨_, h2⟩ | ⟨h1, _⟩ | ⟨_, ⟨c, _, h3⟩, _⟩
  · have := h2 _ hex; rw [hf] at this; cases this
  · exact h1
  · rw [hf] at h3; cases h3
theorem blown_l14 (hn : ps.length ≤ 1000) (hc : chk wide ps = 0) (hv : 1 ≤ v ∧ v ≤ 40) (hst : ∀ s ∈ st, Kd ps 0 s) (hho : ∀ p ∈ ho, Kd ps 1 p) {m : Nat} (hm : 1 ≤ m) {cs : List (Int × Int × Int)} (hcs : ∀ c ∈ cs, CryP st (List.replicate m (-1)) c) {T : List (List Int)} (hT : VTab (ho.length : Int) 2 (st.map (wnA wide ps ho v)) (List.replicate m (-1)) cs T) : ∀ (tl : List Int) (k : Nat), ho.drop k = tl →
    oyezlaw07_BookBlown_l14 wide ps v st cs T tl (k : Int) = some true
  | [], k, _ => by
    unfold oyezlaw07_BookBlown_l14 oyezlaw07_BookBlown_j13
    rw [awake_true, b1_some]
  | p :: tl, k, hd => by
    obtain ⟨hk, hx, hd2⟩ := drop_cons 0 hd
    have hl := hT.len
    have hrow := hT.row _ (getD_mem (d := []) (i := k) (show k < T.length by omega))
    have hy1 := blown_never hcs (hT.get (k : Int) 1 (by omega) (by omega))
    have hy0 := blown_verd hm hho hcs hk (hT.get (k : Int) 0 (by omega) (by omega))
    rw [Int.toNat_natCast] at hy0 hy1
    rw [hx] at hy0
    unfold oyezlaw07_BookBlown_l14
    have ih := blown_l14 hn hc hv hst hho hm hcs hT tl (k + 1) hd2
    rw [ixN [] _ (by omega), if_neg (by rw [hrow]; simp), ixD 0 _ (by omega) (by omega), show (1 : Int).toNat = 1 from rfl] 
    rw [show (1 : Int).toNat = 1 from rfl] at hy1
    rw [hy1, decide_eq_false (by simp), b1_some, if_neg (by decide), blown_l17 (rs := List.replicate m (-1)) hn hc hv hst (by rw [← hx]; exact hho _ (getD_mem hk)) cs false false hcs, Bool.false_or, Bool.false_or]
    unfold oyezlaw07_BookBlown_j16 oyezlaw07_BookBlown_j15
    rw [show (0 : Int).toNat = 0 from rfl] at hy0
    have e0 : ∀ f : List Int → Option Bool, ix T (k : Int) f = f (T.getD k []) := fun f => ixN [] f (by omega)
    have e1 : ∀ f : Int → Option Bool, ix (T.getD k []) 0 f = f ((T.getD k []).getD 0 0) := fun f => by
      have h := ixN (xs := T.getD k []) (i := 0) 0 f (by omega)
      exact h
    rw [e0, e0, e1, e1]
    have e2 : decide ((!cs.any (anyW wide ps st v p)) ≠ decide ((T.getD k []).getD 0 0 = 2)) = false := by
      refine decide_eq_false (not_not_intro ?_)
      cases ha : cs.any (anyW wide ps st v p) with
      | false => rw [decide_eq_true (hy0.2.1 ha)]; rfl
      | true =>
        rw [decide_eq_false]; · rfl
        intro h2; rw [hy0.2.2 h2] at ha; cases ha
    have e3 : (if cs.any (allW wide ps st v p) = true then (if (T.getD k []).getD 0 0 ≠ 1 then some true else some (decide ((!cs.any (anyW wide ps st v p)) ≠ decide ((T.getD k []).getD 0 0 = 2)))) else some (decide ((!cs.any (anyW wide ps st v p)) ≠ decide ((T.getD k []).getD 0 0 = 2)))) = some false := by
      rw [e2]
      by_cases h : cs.any (allW wide ps st v p) = true
      · rw [if_pos h, if_neg (not_not_intro (hy0.1 h))]
      · rw [if_neg h]
    rw [e3, b1_some, if_neg (by decide)]
    exact ih
end
/-- BookBlown. -/
theorem blown_true {numbers cries : List Int} (h1 : (numbers.length : Int) ≤ 9223372036854775807) (h2 : (cries.length : Int) ≤ 9223372036854775807) : oyezlaw07_BookBlown numbers cries = some true := by
  unfold oyezlaw07_BookBlown oyezkit_Hang
  obtain ⟨wide, ps, a, t, e1, hc, hlen, ⟨s0, hs0, hk0⟩, ha⟩ := Go.Proofs.YtodhcoakjlmcdaaGreat.made_ok (metal := numbers) (t := 0) (a := 0) (plots := 12) ⟨by omega, by omega⟩ h1 (by omega)
  obtain ⟨w, v, a', t', e2, _, hv, _⟩ := Go.Proofs.YtodhcoakjlmcdaaGreat.aired_ok (t := t) ha h1
  obtain ⟨st, ho, e3, g1, g2, g3, g4, g5⟩ := blown_l1 (ps := ps) ps 0 [] [] rfl (by simp) (by simp) (fun _ h => nomatch h) (fun _ h => nomatch h)
  have hst : st ≠ [] := g5 (.inr (by rw [← hk0]; exact getD_mem hs0))
  have e3' : oyezlaw07_BookBlown_l1 ps 0 [] [] = some (st, ho) := e3
  rw [b3_some, b3_some, e1, b4_some, e2, b4_some, e3', b2_some]
  by_cases h0 : (ho.length : Int) = 0
  · rw [if_pos h0, awake_true, b1_some]
  · have hn : ps.length ≤ 1000 := by omega
    have hv' : 1 ≤ v ∧ v ≤ 40 := by omega
    have hs1 : 1 ≤ st.length := by
      cases st with
      | nil => exact absurd rfl hst
      | cons => simp
    rw [if_neg h0, blown_l3 hn hc hv' g2 st [] g3 (by simp; omega), List.nil_append]
    unfold oyezlaw07_BookBlown_j2
    obtain ⟨m, a5, t5, f1, f2, f3, f4⟩ := strike_ok (metal := cries) (t := 0) (a := 0) (lo := 1) (hi := 4) ⟨by omega, by omega⟩ h2 (by omega) (by omega)
    rw [f1, b3_some, gd_t ⟨r64_small (by omega), r64_small (by omega)⟩, blown_l11 _ _ _ _ (by simp; omega), b3_some, List.nil_append]
    obtain ⟨n6, a6, t6, k1, k2, k3, k4⟩ := strike_ok (metal := cries) (t := t5) (a := a5) (lo := 1) (hi := 3) f4 h2 (by omega) (by omega)
    obtain ⟨cs, k5, k6, k7⟩ := blown_l12 (st := st) (rs := List.replicate (Int.toNat (m - 0)) (-1)) h2 (by omega) (by rw [List.length_replicate]; omega) (Int.toNat (n6 - 0)) a6 t6 [] k4 (by simp; omega) (fun _ h => nomatch h)
    rw [k1, b3_some, gd_t ⟨r64_small (by omega), r64_small (by omega)⟩, k5, b1_some]
    simp only [List.length_nil, Nat.zero_add] at k6
    have hB := blown_ok (wide := wide) (ps := ps) (v := v) (st := st) (ho := ho) (m := Int.toNat (m - 0)) (by omega) (by omega) (by omega) (cs := cs) (by omega) k7
    obtain ⟨T, q1, hT⟩ := Verdicts_eq hB ⟨_, fit_const (w := 0) (by omega) _ none (fun u hu => nomatch hu)⟩
    rw [q1, b2_some, if_neg (by decide), decide_eq_false (by rw [hT.len]; simp), b1_some, if_neg (by decide)]
    exact blown_l14 hn hc hv' g3 g4 (by omega) k7 hT ho 0 rfl
end Go.Proofs.YtodhcoakjlmcdaaGreat.Bk
