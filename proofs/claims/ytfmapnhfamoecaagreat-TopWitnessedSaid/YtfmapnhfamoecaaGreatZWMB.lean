/- Layer 5: sets that fit, naps, the fewest naps that begin later, the first explanation with the fewest naps; in plain Lean. -/
import Derived.Test.YtfmapnhfamoecaaGreatZWMA
namespace Go.Proofs.YtfmapnhfamoecaaGreat.Nt
open Go.PL
def HQ (ls : List (List Int)) (ms : List Int) : List Nat := (List.range (2 ^ ls.length)).filter (PD ls ms)
theorem Mc {ls : List (List Int)} {ms : List Int} {a : Nat} : a ∈ HQ ls ms ↔ a < 2 ^ ls.length ∧ PD ls ms a = true := by
  unfold HQ; rw [List.mem_filter, List.mem_range]
theorem P4 {ls hs : List (List Int)} {h : Nat} (hh : h < hs.length) : (hs.map (rowOf ls)).getD h [] = rowOf ls (hs.getD h []) := by
  rw [List.getD_eq_getElem?_getD, List.getElem?_map, List.getElem?_eq_getElem hh, List.getD_eq_getElem?_getD, List.getElem?_eq_getElem hh]; rfl
theorem VI {ls hs : List (List Int)} (g : GO ls hs) {h : Nat} (hh : h < hs.length) : ∀ (fu k : Nat), k + fu ≤ 2 ^ ls.length → C2 (hs.map (rowOf ls)) (h : Int) fu (k : Int) = some (K5 ((List.range' k fu).filter (PD ls (hs.getD h []))))
  | 0, k, _ => rfl
  | fu + 1, k, hk => by
    have hp := IA g.n6
    unfold C2
    rw [Q2 [] _ (by simpa using hh), Q2 false _ (by rw [P4 hh]; unfold rowOf; rw [NV]; omega), Wc g hh (by omega), show (k : Int) + 1 = ((k + 1 : Nat) : Int) by omega, VI g hh fu (k + 1) (by omega), List.range'_succ]
    cases hb : PD ls (hs.getD h []) k with
    | true => rw [if_pos rfl, List.filter_cons_of_pos hb]; rfl
    | false => rw [if_neg (by decide), List.filter_cons_of_neg (by rw [hb]; decide)]
theorem WR {ls hs : List (List Int)} (g : GO ls hs) {h : Nat} (hh : h < hs.length) : Fo ls hs (hs.map (rowOf ls)) (h : Int) = some (K5 (HQ ls (hs.getD h []))) := by
  have hp := IA g.n6
  have h6 := g.n6
  unfold Fo Hn
  rw [PO (by omega), AZ, Dn ⟨Cf (by omega), Ub (by omega)⟩, Mz, show (0 : Int) = ((0 : Nat) : Int) from rfl, VI g hh _ 0 (by omega), AZ]
  rw [← List.range_eq_range']; rfl
def pop (x : Nat) : Nat := ((List.range 6).filter fun i => x.testBit i).length
def WX (b a : Nat) : Nat := pop (WA a b)
def Ra : Nat → List Nat → Nat
  | _, [] => 0
  | b, a :: s => WX b a + Ra a s
section
variable (ls : List (List Int)) (ok : Nat → Bool)
def XZ (R : Nat → Nat) (b : Nat) (v x : Nat) : Nat := if ok x = true then min v (R x + WX b x) else v
def Rn : List (List Int) → Nat → Nat
  | [], _ => 0
  | ms :: tl, b => (HQ ls ms).foldl (XZ ok (Rn tl) b) 100
def Wy (hs : List (List Int)) (s : List Nat) : Prop := JA ls hs s ∧ ∀ a ∈ s, ok a = true
end
theorem set_set {α : Type} (l : List α) (i : Nat) (x y : α) : (l.set i x).set i y = l.set i y := by simp
section
variable {ls hs : List (List Int)} {ok : Nat → Bool} {okF : Int → Option Bool}
end
def Wv : List Nat → List Nat → Prop
  | [], _ => True
  | _ :: _, [] => False
  | a :: s, b :: t => a < b ∨ (a = b ∧ Wv s t)
section
variable {ls hs : List (List Int)} {ok : Nat → Bool} {okF : Int → Option Bool}
structure X3 (ls : List (List Int)) (ok : Nat → Bool) (hs : List (List Int)) (b : Nat) (s : List Nat) : Prop where
  ex : Wy ls ok hs s
  Yq : Ra b s = Rn ls ok hs b
  lex : ∀ t, Wy ls ok hs t → Ra b t = Rn ls ok hs b → Wv s t
theorem SL (g : GO ls hs) {s : List Nat} (he : JA ls hs s) : Gf ls hs (hs.map (rowOf ls)) = some false := by
  have key : ∀ (tl : List (List Int)) (s : List Nat) (k : Int), JA ls tl s → BN (List.replicate 64 false) (tl.map (rowOf ls)) k = some (-1) := by
    intro tl
    induction tl with
    | nil => intro s k _; rfl
    | cons ms tl ih =>
      intro s k h
      cases s with
      | nil => exact h.elim
      | cons a s =>
        have hp := IA g.n6
        rw [List.map_cons]
        unfold BN
        rw [if_neg, ih s (k + 1) h.2]
        intro heq
        have h1 : (rowOf ls ms).getD a false = true := by
          unfold rowOf OI
          rw [List.getD_eq_getElem?_getD, List.getElem?_map, List.getElem?_range (by have := h.1.1; omega)]
          simp [h.1.1, h.1.2]
        rw [← heq, List.getD_eq_getElem?_getD, List.getElem?_replicate_of_lt (by have := h.1.1; omega)] at h1
        cases h1
  unfold Gf CP C9
  rw [key hs s 0 he, AZ, AZ]; rfl
theorem VV (g : GO ls hs) {s : List Nat} (he : JA ls hs s) : ∃ CJ, JS ls hs = some (some (ls, hs, CJ, hs.map (rowOf ls)), 0) := by
  obtain ⟨c, h1, _⟩ := Rl g
  refine ⟨c, ?_⟩
  unfold JS
  rw [h1, D0, if_neg (by decide), IG, SL g he, AZ, if_neg (by decide)]
def WO : Nat → Bool := fun _ => true
end
end Go.Proofs.YtfmapnhfamoecaaGreat.Nt
namespace Go.Proofs.YtfmapnhfamoecaaGreat.Nt
open Go.PL
def S8 : List Nat → Nat
  | [] => 0
  | a :: r => WX (r.headD 0) a + S8 r
def Yl (f : Nat → Nat) (l : List Nat) (v : Nat) : Nat := l.foldl (fun v x => min v (f x)) v
theorem Wq (a : Nat) : pop a = WX 0 a := by
  unfold WX
  congr 1
  apply Nat.eq_of_testBit_eq
  intro i
  rw [Ug, Nat.zero_testBit]; simp
def UX (ls : List (List Int)) : List (List Int) → Nat → Nat
  | [], _ => 0
  | [_], a => pop a
  | _ :: ms :: r, a => Yl (fun b => UX ls (ms :: r) b + WX b a) (HQ ls ms) 100
theorem Uz (a : Nat) (l : List Nat) : K5 (a :: l) = (a : Int) :: K5 l := rfl
section
variable {ls hs : List (List Int)}
structure Shape (ls hs : List (List Int)) (T : List (List Int)) : Prop where
  len : T.length = hs.length
  wid : ∀ r ∈ T, r.length = 2 ^ ls.length
  XT : ∀ r ∈ T, ∀ x ∈ r, 0 ≤ x ∧ x ≤ 99
variable {T : List (List Int)}
theorem Shape.row (t : Shape ls hs T) {h : Nat} (hh : h < hs.length) : (T.getD h []).length = 2 ^ ls.length := by
  have hl : h < T.length := by rw [t.len]; exact hh
  rw [List.getD_eq_getElem?_getD, List.getElem?_eq_getElem hl]
  exact t.wid _ (List.getElem_mem hl)
theorem Shape.val (t : Shape ls hs T) {h a : Nat} (hh : h < hs.length) (ha : a < 2 ^ ls.length) : 0 ≤ (T.getD h []).getD a 0 ∧ (T.getD h []).getD a 0 ≤ 99 := by
  have hl : h < T.length := by rw [t.len]; exact hh
  have hr := t.row hh
  refine t.XT (T.getD h []) ?_ _ ?_
  · rw [List.getD_eq_getElem?_getD, List.getElem?_eq_getElem hl]; exact List.getElem_mem hl
  · rw [List.getD_eq_getElem?_getD (l := T.getD h []), List.getElem?_eq_getElem (by omega)]; exact List.getElem_mem _
end
end Go.Proofs.YtfmapnhfamoecaaGreat.Nt
namespace Go.Proofs.YtfmapnhfamoecaaGreat.Nt
open Go.PL
section
variable {ls hs : List (List Int)}
variable {metal : List Int}
end
section
variable {ls hs : List (List Int)} {metal : List Int}
end
end Go.Proofs.YtfmapnhfamoecaaGreat.Nt
namespace Go.Proofs.YtfmapnhfamoecaaGreat.Nt
open Go.PL
section
variable {ls hs : List (List Int)} {ok : Nat → Bool}
end
def Xq (ls : List (List Int)) : List (List Int) → List (List Nat)
  | [] => [[]]
  | ms :: tl => (HQ ls ms).flatMap fun a => (Xq ls tl).map (a :: ·)
section
variable {ls hs : List (List Int)}
theorem J6 (L : List (List Nat)) : ∀ l : List Nat, (l.flatMap fun a => L.map (a :: ·)).length = l.length * L.length
  | [] => by simp
  | a :: l => by
    rw [List.flatMap_cons, List.length_append, List.length_map, J6 L l, List.length_cons, Nat.succ_mul]; omega
end
end Go.Proofs.YtfmapnhfamoecaaGreat.Nt
namespace Go.Proofs.YtfmapnhfamoecaaGreat.Nt
open Go.PL
def P3 (GX x : Nat) : Nat := if x.testBit GX = true then 1 else 0
theorem V7 (GX x : Nat) : P3 GX x ≤ 1 := by unfold P3; split <;> omega
theorem UQ (GX a : Nat) : P3 GX (WA a 0) = P3 GX a := by
  unfold P3
  rw [Ug, Nat.zero_testBit]; simp
def VC (GX : Nat) : Nat → List Nat → Nat
  | _, [] => 0
  | b, a :: s => P3 GX (WA a b) + VC GX a s
def Sg (GX : Nat) : List Nat → Nat
  | [] => 0
  | a :: r => P3 GX (WA a (r.headD 0)) + Sg GX r
theorem Sc (GX : Nat) : ∀ s : List Nat, Sg GX s ≤ s.length
  | [] => Nat.le_refl _
  | a :: r => by
    have := Sc GX r
    have := V7 GX (WA a (r.headD 0))
    unfold Sg; rw [List.length_cons]; omega
section
variable {c : Nat → Bool} {f : Nat → Nat}
end
section
variable {ls hs : List (List Int)} {GX : Nat}
structure MM (ls : List (List Int)) (GX : Nat) (m0 : List Int) (r : List (List Int)) (a x y : Nat) : Prop where
  lo : ∃ s, JA ls r s ∧ S8 (a :: s) = UX ls (m0 :: r) a ∧ Sg GX (a :: s) = x
  hi : ∃ s, JA ls r s ∧ S8 (a :: s) = UX ls (m0 :: r) a ∧ Sg GX (a :: s) = y
  all : ∀ s, JA ls r s → S8 (a :: s) = UX ls (m0 :: r) a → x ≤ Sg GX (a :: s) ∧ Sg GX (a :: s) ≤ y
theorem MM.le {m0 : List Int} {r : List (List Int)} {a x y : Nat} (h : MM ls GX m0 r a x y) : x ≤ r.length + 1 ∧ y ≤ r.length + 1 := by
  obtain ⟨s, h1, _, h2⟩ := h.lo
  obtain ⟨t, h3, _, h4⟩ := h.hi
  have a1 := Sc GX (a :: s)
  have a2 := Sc GX (a :: t)
  rw [List.length_cons, h1.len] at a1
  rw [List.length_cons, h3.len] at a2
  omega
theorem MM.first (m0 : List Int) (a : Nat) : MM ls GX m0 [] a (P3 GX a) (P3 GX a) := by
  have e : S8 [a] = UX ls [m0] a := by show WX 0 a + 0 = pop a; rw [Wq]; omega
  have e2 : Sg GX [a] = P3 GX a := by show P3 GX (WA a 0) + 0 = _; rw [UQ]; omega
  refine ⟨⟨[], trivial, e, e2⟩, ⟨[], trivial, e, e2⟩, fun s hs _ => ?_⟩
  cases s with
  | nil => omega
  | cons _ _ => exact hs.elim
structure Yi (ls hs : List (List Int)) (GX x y : Nat) : Prop where
  lo : ∃ s, JA ls hs s ∧ Ra 0 s = Rn ls WO hs 0 ∧ VC GX 0 s = x
  hi : ∃ s, JA ls hs s ∧ Ra 0 s = Rn ls WO hs 0 ∧ VC GX 0 s = y
  all : ∀ s, JA ls hs s → Ra 0 s = Rn ls WO hs 0 → x ≤ VC GX 0 s ∧ VC GX 0 s ≤ y
end
end Go.Proofs.YtfmapnhfamoecaaGreat.Nt
