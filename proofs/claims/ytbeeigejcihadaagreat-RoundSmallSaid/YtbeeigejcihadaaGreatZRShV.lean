/- The calculus, part V: lists of lists with a row that lies apart. -/
import Derived.Test.YtbeeigejcihadaaGreatZRShU
namespace Go.SH
section
variable {α : Type} {nb E Ei sz : Nat} {R : Hp α} {F : FS} {hs : List Hd} {De : List (List α)} {Lc : LH} {A i : Nat} {ha : Hd} {el xs : List α}
def Qf (nb E sz : Nat) (R : Hp α) (F : FS) (A : Nat) (ha : Hd) (el : List α) (i : Nat) (hs : List Hd) (De : List (List α)) (Lc : LH) : Prop :=
  i ≠ A ∧ hs[A]? = some ha ∧ De[A]? = some el ∧ ∃ Ls : List LH, Lc.Perm ((Ls.set A []).set i []).flatten ∧ hs.length = De.length ∧ Ls.length = hs.length ∧ i < hs.length ∧ ∀ (j : Nat) (h : Hd) (xs : List α) (Lb : LH), j ≠ A → j ≠ i → hs[j]? = some h → De[j]? = some xs → Ls[j]? = some Lb → AM nb E sz R F h.1 h.2.1 h.2.2 xs Lb
def Po {α : Type} (A : Nat) (ha : Hd) (el : List α) (nb E Ei sz : Nat) (R : Hp α) (F : FS) (a : Option Addr) (n cap : Nat) (De : List (List α)) (Lb : LH) : Prop :=
  ∃ hs Lo Lc, Lb.Perm (Lo ++ Lc) ∧ AM nb E 1 LI F a n cap hs Lo ∧ K3 nb Ei sz R F A hs De Lc ∧ hs[A]? = some ha ∧ De[A]? = some el
theorem Qf.mono (hR : Cr sz R) {F' : FS} (h : Qf nb E sz R F A ha el i hs De Lc) (hF : AN F F') : Qf nb E sz R F' A ha el i hs De Lc := by
  obtain ⟨h0, ha, hb, Ls, h1, h2, h3, h5, h4⟩ := h
  exact ⟨h0, ha, hb, Ls, h1, h2, h3, h5, fun j h xs Lb e8 e0 e1 e2 e3 => (h4 j h xs Lb e8 e0 e1 e2 e3).mono hR hF⟩
theorem K3.len (h : K3 nb E sz R F i hs De Lc) : hs.length = De.length := by obtain ⟨_, _, h, _⟩ := h; exact h
variable {a : Option Addr} {n cap : Nat} {Lb Lo Li Lr L : LH}
theorem Po.mono (hR : Cr sz R) {F' : FS} (h : Po A ha el nb E Ei sz R F a n cap De Lb) (hF : AN F F') : Po A ha el nb E Ei sz R F' a n cap De Lb := by
  obtain ⟨hs, Lo, Lc, h1, h2, h3, h4⟩ := h
  exact ⟨hs, Lo, Lc, h1, h2.mono Cv hF, h3.mono hR hF, h4⟩
theorem Po.A6 (h : Po A ha el nb E Ei sz R F a n cap De Lb) : n = De.length ∧ n ≤ cap ∧ cap ≤ maxLen := by
  obtain ⟨hs, Lo, Lc, h1, h2, h3, h4⟩ := h
  rw [← h3.len]; exact h2.A6
theorem Po.Gh (h : Po A ha el nb E Ei sz R F a n cap De Lb) : (De.length : Int) = (n : Int) := by rw [h.A6.1]
theorem Po.PI (h : Po A ha el nb E Ei sz R F a n cap De Lb) : (De.length : Int) ≤ 9223372036854775807 := by
  have := h.A6; simp only [maxLen] at this; omega
theorem K3.take {m c : Nat} {a' : Option Addr} (h : K3 nb Ei sz R F A hs De Lc) (ho : AM nb E 1 LI F a n cap hs Lo) (hh : hs[A]? = some (a', m, c)) (hx : De[A]? = some el) : Po A (a', m, c) el nb E Ei sz R F a n cap De (Lo ++ (Lc ++ [])) :=
  ⟨hs, Lo, Lc, by simp, ho, h, hh, hx⟩
theorem Qf.Qv {m c : Nat} {a' : Option Addr} (h : Qf nb Ei sz R F A ha el i hs De Lc) (ho : AM nb E 1 LI F a n cap (hs.set i (a', m, c)) Lo) (hr : AM nb Ei sz R F a' m c xs Li) : Po A ha el nb E Ei sz R F a n cap (De.set i xs) (Lo ++ (Li ++ (Lc ++ []))) := by
  obtain ⟨h0, hA, hB, Ls, h1, h2, h3, h5, h4⟩ := h
  have aa : A < hs.length := (List.getElem?_eq_some_iff.1 hA).1
  refine ⟨_, Lo, Li ++ Lc, by simp, ho, ⟨Ls.set i Li, ?_, by simp [h2], by simp [h3], by simpa using aa, fun j h ys Lb' e0 e1 e2 e3 => ?_⟩, ?_, ?_⟩
  · rw [List.set_comm _ _ (fun he => h0 he)]
    exact (h1.append_left Li).trans (JH (Ls.set A []) i Li (by simp; omega)).symm
  · rw [List.getElem?_set] at e1 e2 e3
    by_cases hj : i = j
    · rw [if_pos hj] at e1 e2 e3
      rw [if_pos (by omega)] at e1 e2 e3
      cases e1; cases e2; cases e3
      exact hr
    · rw [if_neg hj] at e1 e2 e3
      exact h4 j h ys Lb' e0 (fun he => hj he.symm) e1 e2 e3
  · rw [List.getElem?_set_ne h0]; exact hA
  · rw [List.getElem?_set_ne h0]; exact hB
theorem Qf.back {m c : Nat} {a' : Option Addr} (h : Qf nb Ei sz R F A ha el i hs De Lc) (ho : AM nb E 1 LI F a n cap (hs.set i (a', m, c)) Lo) (hr : AM nb Ei sz R F a' m c xs Li) {aa : List (List α)} (hz : aa = De.set i xs) : Po A ha el nb E Ei sz R F a n cap aa (Lo ++ (Li ++ (Lc ++ []))) := by
  subst hz; exact h.Qv ho hr
theorem Qf.Ln {m c : Nat} {a' : Option Addr} (h : Qf nb Ei sz R F A ha el i hs De Lc) (ho : AM nb E 1 LI F a n cap hs Lo) (hh : hs[i]? = some (a', m, c)) (hr : AM nb Ei sz R F a' m c xs Li) {aa : List (List α)} (hz : aa = De.set i xs) : Po A ha el nb E Ei sz R F a n cap aa (Lo ++ (Li ++ (Lc ++ []))) := by
  subst hz
  refine h.Qv (m := m) (c := c) (a' := a') ?_ hr
  rwa [Ip hh]
theorem Qf.On {m c : Nat} {a' : Option Addr} (h : Qf nb Ei sz R F A ha el i hs De Lc) (ho : AM nb E 1 LI F a n cap hs Lo) (hh : hs[i]? = some (a', m, c)) (hr : AM nb Ei sz R F a' m c xs Li) (hx : De[i]? = some xs) : Po A ha el nb E Ei sz R F a n cap De (Lo ++ (Li ++ (Lc ++ []))) :=
  h.Ln ho hh hr (Ip hx).symm
theorem Po.open (h : Po A ha el nb E Ei sz R F a n cap De Lb) (aa : i ≠ A) (hx : De[i]? = some xs) : ∃ hs Lo Lc a' m c Li, hs[i]? = some (a', m, c) ∧ AM nb E 1 LI F a n cap hs Lo ∧ AM nb Ei sz R F a' m c xs Li ∧ Qf nb Ei sz R F A ha el i hs De Lc ∧ Lb.Perm (Lo ++ (Li ++ Lc)) := by
  obtain ⟨hs, Lo, Lc, h1, h2, ⟨Ls, g1, g2, g3, g5, g4⟩, hA, hB⟩ := h
  obtain ⟨hi, _⟩ := List.getElem?_eq_some_iff.1 hx
  have e1 : hs[i]? = some (hs[i]'(by omega)) := List.getElem?_eq_getElem (by omega)
  have e3 : Ls[i]? = some (Ls[i]'(by omega)) := List.getElem?_eq_getElem (by omega)
  refine ⟨hs, Lo, ((Ls.set A []).set i []).flatten, _, _, _, Ls[i]'(by omega), e1, h2, g4 i _ _ _ aa e1 hx e3, ⟨aa, hA, hB, Ls, .refl _, g2, g3, by omega, fun j h xs Lb k1 k2 => g4 j h xs Lb k1⟩, ?_⟩
  refine h1.trans (List.Perm.append_left Lo (g1.trans ?_))
  have e4 : (Ls.set A [])[i]? = some (Ls[i]'(by omega)) := by rw [List.getElem?_set_ne (fun he => aa he.symm)]; exact e3
  have := JH (Ls.set A []) i (Ls[i]'(by omega)) (by simp; omega)
  rwa [Ip e4] at this
variable {P : Program} {N : Nat} {r : Option Nat} {K : Ctx} {ops : Array Oper} {Q : Env → FS → LH → Prop} {e : Env}
end
def Pr (l : List Value) (p : Nat) (v : Value) (l' : List Value) : Prop := l.set p v = l' ∧ p < l.length
theorem OO {X X' B : List Value} {p : Nat} {v : Value} (h : Pr X p v X') : Pr (X ++ B) p v (X' ++ B) :=
  ⟨by rw [List.set_append_left _ _ h.2, h.1], by rw [List.length_append]; have := h.2; omega⟩
theorem DD {A l l' : List Value} {k p : Nat} {v : Value} (hA : A.length = k) (h : Pr l p v l') : Pr (A ++ l) (k + p) v (A ++ l') := by
  subst hA
  refine ⟨?_, by rw [List.length_append]; have := h.2; omega⟩
  rw [List.set_append_right _ _ (by omega), show A.length + p - A.length = p by omega, h.1]
theorem PE {β : Type} {f : β → List Value} (hf : Qi 1 f) {xs : List β} {u : β} {v : Value} {n p : Nat} (hv : f u = [v]) (hn : xs.length = n) (g : p < n) (F : FS) : Pr (xs.flatMap f) p v ((xs.set p u).flatMap f) := by
  have aa := (PN (n := n) (F := F) hf (vs := xs.flatMap f) ⟨rfl, hn⟩ (j := p) (y := u) (v := v) g hv).1
  rw [Nat.mul_one] at aa
  exact ⟨aa, by rw [MS hf, hn, Nat.mul_one]; exact g⟩
theorem KI {P : Program} {N : Nat} {r : Option Nat} {K : Ctx} {ops : Array Oper} {Q : Env → FS → LH → Prop} {rest : List Oper} {e : Env} {F : FS} {L : LH} {ty : TypeId} {pos : String} {after : Array Edge} {T : TypeId} {x y : Operand} {b i p p' : Nat} {v : Value} {l l' : List Value} {E : TypeId} (hT : ∀ w, (sizeOf T).run P w = .ok 1 w) (hx : ev e x = some (.pointer (some ⟨b, p', none⟩))) (hp : p' = p) (hy : ev e y = some v) (h1 : v.oneCell' = true) (hi : L[i]? = some (b, .cells l.toArray E (0, 0)))
    (hs : Pr l p v l') (k : Cu P N r K ops Q rest e F (L.set i (b, .cells l'.toArray E (0, 0)))) : Cu P N r K ops Q (⟨none, .store T x y, ty, pos, after, none⟩ :: rest) e F L := by
  subst hp
  refine By (i := i) hT hx hy h1 hi (by have := hs.2; simpa using this) ?_
  have : (l.toArray).setIfInBounds p' v = l'.toArray := by
    apply Array.ext'
    simp only [Array.toList_setIfInBounds]
    exact hs.1
  rw [this]; exact k
theorem RH {w v : Value} : Pr [w] 0 v [v] := ⟨rfl, by simp⟩
def Q9 (l : List Value) (o n : Nat) (Y : List Value) (l' : List Value) : Prop := l.take o ++ (Y ++ l.drop (o + n)) = l' ∧ o + n ≤ l.length
theorem Rj {X Y B : List Value} {n : Nat} (hX : X.length = n) : Q9 (X ++ B) 0 n Y (Y ++ B) := ⟨by subst hX; simp, by subst hX; simp⟩
theorem MC {A l l' Y : List Value} {k o n : Nat} (hA : A.length = k) (h : Q9 l o n Y l') : Q9 (A ++ l) (k + o) n Y (A ++ l') := by
  subst hA
  refine ⟨?_, by rw [List.length_append]; have := h.2; omega⟩
  rw [← h.1, List.take_append, List.take_of_length_le (Nat.le_add_right ..), show A.length + o - A.length = o by omega, List.append_assoc, show A.length + o + n = A.length + (o + n) by omega, List.drop_append, List.drop_eq_nil_of_le (Nat.le_add_right ..), List.nil_append, show A.length + (o + n) - A.length = o + n by omega]
theorem Pj {P : Program} {N : Nat} {r : Option Nat} {K : Ctx} {ops : Array Oper} {Q : Env → FS → LH → Prop} {rest : List Oper} {e : Env} {F : FS} {L : LH} {ty : TypeId} {pos : String} {after : Array Edge} {T : TypeId} {x y : Operand} {b i o n : Nat} {cs : Array Value} {l l' : List Value} {E : TypeId} (hT : ∀ w, (sizeOf T).run P w = .ok n w) (hx : ev e x = some (.pointer (some ⟨b, o, none⟩))) (hy : ev e y = some (.agg cs)) (hn : cs.size = n) (h1 : ∀ v ∈ cs.toList, v.oneCell' = true) (hi : L[i]? = some (b, .cells l.toArray E (0, 0)))
    (hs : Q9 l o n cs.toList l') (k : Cu P N r K ops Q rest e F (L.set i (b, .cells l'.toArray E (0, 0)))) : Cu P N r K ops Q (⟨none, .store T x y, ty, pos, after, none⟩ :: rest) e F L := by
  refine A8 (i := i) hT hx hy hn h1 hi (by have := hs.2; simpa using this) ?_
  have : (cs.toList.zipIdx o).foldl (fun (c : Array Value) p => c.setIfInBounds p.2 p.1) l.toArray = l'.toArray := by
    apply Array.ext'
    rw [Ik _ _ _ (by have := hs.2; simp; omega)]
    rw [← hs.1]
    simp [hn]
  rw [this]; exact k
theorem Mc {β : Type} {R : Nat → β → Prop} : ∀ (n k : Nat) (ls : List β), ls.length = n → (∀ i l, ls[i]? = some l → R (k + i) l) → El R (List.range' k n) ls
  | 0, _, [], _, _ => .nil
  | n + 1, k, l :: ls, hl, h => .cons (h 0 l rfl) (Mc n (k + 1) ls (by simpa using hl) fun i x hx => by
      have := h (i + 1) x hx
      rwa [show k + 1 + i = k + (i + 1) by omega])
theorem Np {α : Type} {m : Nat} : ∀ (n : Nat) (xs : List α), xs.length = n * m → ((List.range n).map fun i => (xs.drop (i * m)).take m).flatten = xs
  | 0, xs, h => by
    rw [Nat.zero_mul] at h
    rw [List.eq_nil_of_length_eq_zero h]; rfl
  | n + 1, xs, h => by
    have hm : (n + 1) * m = n * m + m := by rw [Nat.succ_mul]
    have ih := Np (m := m) n (xs.drop m) (by rw [List.length_drop]; omega)
    rw [List.range_succ_eq_map, List.map_cons, List.map_map, List.flatten_cons, Nat.zero_mul, List.drop_zero]
    have e : ((fun i => (xs.drop (i * m)).take m) ∘ Nat.succ) = fun i => ((xs.drop m).drop (i * m)).take m := by
      funext i
      show (xs.drop (Nat.succ i * m)).take m = _
      rw [List.drop_drop, Nat.succ_mul, Nat.add_comm (i * m) m]
    rw [e, ih, List.take_append_drop]
theorem OW {P : Program} {d n : Nat} {T E : TypeId} {q : IntKind} (hu : P.underlying T = some (.array n E)) (he : P.underlying E = some (.int q)) (hc : P.cellsOf T = n) (aa : P.cellsOf E = 1) {xs : List Int} (hn : xs.length = n) (hw : ∀ x ∈ xs, (Lit.int q x).wf = true) : P.keyLits (d + 2) T (xs.map (Value.int q)) = some (xs.map (Lit.int q)) := by
  unfold Program.keyLits
  simp only [hu]
  rw [if_pos (by rw [List.length_map, hn, hc])]
  have h1 : ((List.range n).mapM fun i => P.keyLits (d + 1) E (((xs.map (Value.int q)).drop (i * P.cellsOf E)).take (P.cellsOf E))) = some (xs.map fun x => [Lit.int q x]) := by
    refine Nh ?_
    rw [List.range_eq_range']
    refine Mc n 0 _ (by rw [List.length_map, hn]) fun i l hl => ?_
    rw [List.getElem?_map, Option.map_eq_some_iff] at hl
    obtain ⟨x, hx, rfl⟩ := hl
    obtain ⟨hi, ab⟩ := List.getElem?_eq_some_iff.1 hx
    rw [aa, Nat.mul_one, Nat.zero_add, ← List.map_drop, List.drop_eq_getElem_cons hi, ab, List.map_cons]
    show P.keyLits (d + 1) E [.int q x] = _
    exact N8 he (hw x (List.mem_of_getElem? hx))
  rw [h1]
  show some (xs.map fun x => [Lit.int q x]).flatten = _
  congr 1
  clear h1 hw hn
  induction xs with
  | nil => rfl
  | cons x xs ih => simp [ih]
theorem ON {P : Program} {d n m : Nat} {T T2 E : TypeId} {q : IntKind} (hu : P.underlying T = some (.array n T2)) (ad : P.underlying T2 = some (.array m E)) (he : P.underlying E = some (.int q)) (hc : P.cellsOf T = n * m) (aa : P.cellsOf T2 = m) (ae : P.cellsOf E = 1) {xs : List Int} (hn : xs.length = n * m) (hw : ∀ x ∈ xs, (Lit.int q x).wf = true) : P.keyLits (d + 3) T (xs.map (Value.int q)) = some (xs.map (Lit.int q)) := by
  unfold Program.keyLits
  simp only [hu]
  rw [if_pos (by rw [List.length_map, hn, hc])]
  have h1 : ((List.range n).mapM fun i => P.keyLits (d + 2) T2 (((xs.map (Value.int q)).drop (i * P.cellsOf T2)).take (P.cellsOf T2))) = some ((List.range n).map fun i => ((xs.drop (i * m)).take m).map (Lit.int q)) := by
    refine Nh ?_
    have := Mc (R := fun i l => P.keyLits (d + 2) T2 (((xs.map (Value.int q)).drop (i * P.cellsOf T2)).take (P.cellsOf T2)) = some l) n 0 ((List.range n).map fun i => ((xs.drop (i * m)).take m).map (Lit.int q)) (by simp) fun i l hl => by
      rw [List.getElem?_map, Option.map_eq_some_iff] at hl
      obtain ⟨j, hj, rfl⟩ := hl
      obtain ⟨hi, ab⟩ := List.getElem?_eq_some_iff.1 hj
      rw [List.getElem_range] at ab
      subst ab
      rw [List.length_range] at hi
      rw [Nat.zero_add, aa, ← List.map_drop, ← List.map_take]
      have hle : i * m + m ≤ n * m := by
        rw [← Nat.succ_mul]; exact Nat.mul_le_mul_right m hi
      exact OW ad he aa ae (by rw [List.length_take, List.length_drop, hn]; omega) fun x hx => hw x (List.drop_subset _ _ (List.take_subset _ _ hx))
    rwa [← List.range_eq_range'] at this
  rw [h1]
  show some (((List.range n).map fun i => ((xs.drop (i * m)).take m).map (Lit.int q)).flatten) = _
  congr 1
  have := Np n (xs.map (Lit.int q)) (m := m) (by rw [List.length_map, hn])
  rw [← this]
  congr 1
  refine List.map_congr_left fun i _ => ?_
  rw [List.map_take, List.map_drop]
theorem PO {q : IntKind} : ∀ xs : List Int, xs.flatMap (fun x => [Value.int q x]) = xs.map (Value.int q)
  | [] => rfl
  | x :: xs => by rw [List.flatMap_cons, PO xs]; rfl
end Go.SH
