/- The calculus, part F: slices. -/
import Derived.Test.YtdhookifhfkcpaaGreatZBShE
namespace Go.SH
structure EN (P : Program) (T E : TypeId) (sz : Nat) (z : Value) (bytes : Nat) : Prop where
  Qw : P.underlying T = some (.slice E)
  info : ∃ i, P.info? E = some i ∧ i.zero = some z ∧ i.size = sz ∧ i.bytes = bytes
  zero : z.cells.size = sz
  pos : 0 < sz
theorem EN.mk' {P : Program} {T E sz bytes : Nat} {z : Value} (hu : P.underlying T = some (.slice E)) (hi : (P.info? E).map (fun i => (i.zero, i.size, i.bytes)) = some (some z, sz, bytes)) (hz : z.cells.size = sz) (hp : 0 < sz) : EN P T E sz z bytes := by
  refine ⟨hu, ?_, hz, hp⟩
  cases h : P.info? E with
  | none => rw [h] at hi; cases hi
  | some i =>
    rw [h] at hi
    simp only [Option.map_some, Option.some.injEq, Prod.mk.injEq] at hi
    exact ⟨i, rfl, hi.1, hi.2.1, hi.2.2⟩
theorem EN.size {P : Program} {T E sz bytes : Nat} {z : Value} (h : EN P T E sz z bytes) (w : World) : (sizeOf E).run P w = .ok sz w := by
  obtain ⟨i, h1, h2, h3, h4⟩ := h.info
  simp [sizeOf, typeInfo, h1, h3]
def OneCell (xs : List Value) : Prop := ∀ v ∈ xs, v.oneCell' = true
structure Row (F : FS) (sz : Nat) (a : Option Addr) (n cap : Nat) (xs : List Value) : Prop where
  len : xs.length = n * sz
  le : n ≤ cap
  cm : cap ≤ maxLen
  one : OneCell xs
  cells : n = 0 ∨ ∃ b o c E m, a = some ⟨b, o, none⟩ ∧ F b = some (.cells c E m) ∧ o + n * sz ≤ c.size ∧ ∀ j, j < n * sz → c[o + j]? = xs[j]?
theorem Row.mono {F F' : FS} {sz : Nat} {a : Option Addr} {n cap : Nat} {xs : List Value} (h : Row F sz a n cap xs) (hF : AQ F F') : Row F' sz a n cap xs :=
  ⟨h.len, h.le, h.cm, h.one, h.cells.imp id fun ⟨b, o, c, E, m, h1, h2, h3⟩ => ⟨b, o, c, E, m, h1, hF _ _ h2, h3⟩⟩
theorem Row.nil (F : FS) (sz : Nat) (a : Option Addr) (cap : Nat) (hc : cap ≤ maxLen) : Row F sz a 0 cap [] := ⟨by simp, Nat.zero_le _, hc, fun v h => by simp at h, .inl rfl⟩
theorem Row.at {F : FS} {L : LH} {sz : Nat} {a : Option Addr} {n cap : Nat} {xs : List Value} (h : Row F sz a n cap xs) {i : Nat} (hi : i < n) :
    ∃ b o c, a = some ⟨b, o, none⟩ ∧ Has F L b c ∧ o + i * sz + sz ≤ c.size ∧ ∀ k, k < sz → c[o + i * sz + k]? = xs[i * sz + k]? := by
  rcases h.cells with h0 | ⟨b, o, c, E, m, h1, h2, h3, h4⟩
  · omega
  · have hm : i * sz + sz ≤ n * sz := by have := Nat.mul_le_mul_right sz (show i + 1 ≤ n by omega); rwa [Nat.add_mul, Nat.one_mul] at this
    exact ⟨b, o, c, h1, .frozen h2, by omega, fun k hk => by rw [Nat.add_assoc]; exact h4 _ (by omega)⟩
def Sl (E sz : Nat) (v : Value) (n : Nat) (xs : List Value) (Lb : LH) : Prop :=
  xs.length = n * sz ∧ OneCell xs ∧ ((∃ a, v = .slice a 0 0 ∧ n = 0 ∧ Lb = []) ∨ ∃ g cap pre sp, v = .slice (some ⟨g, pre.length, none⟩) n cap ∧ n ≤ cap ∧ cap ≤ maxLen ∧ xs.length + sp.length = cap * sz ∧ Lb = [(g, .cells (pre ++ xs ++ sp).toArray E (0, 0))])
theorem Sl.nil (E sz : Nat) : Sl E sz (.slice none 0 0) 0 [] [] := ⟨by simp, fun v h => by simp at h, .inl ⟨none, rfl, rfl, rfl⟩⟩
theorem Sl.shape {E sz : Nat} {v : Value} {n : Nat} {xs : List Value} {Lb : LH} (h : Sl E sz v n xs Lb) : ∃ a cap, v = .slice a n cap ∧ n ≤ cap ∧ cap ≤ maxLen := by
  rcases h.2.2 with ⟨a, rfl, rfl, _⟩ | ⟨g, cap, pre, sp, rfl, h1, h2, _⟩
  · exact ⟨a, 0, rfl, Nat.le_refl _, Nat.zero_le _⟩
  · exact ⟨_, _, rfl, h1, h2⟩
theorem Sl.whole {E sz g n : Nat} {xs : List Value} (hl : xs.length = n * sz) (h1 : OneCell xs) (hn : n ≤ maxLen) : Sl E sz (.slice (some ⟨g, 0, none⟩) n n) n xs [(g, .cells xs.toArray E (0, 0))] :=
  ⟨hl, h1, .inr ⟨g, n, [], [], rfl, Nat.le_refl _, hn, by simp [hl], by simp⟩⟩
theorem Sl.from {E sz n c l : Nat} {a : Option Addr} {xs : List Value} {Lb : LH} (h : Sl E sz (.slice a n c) n xs Lb) (hl : l ≤ n) : ∃ Lb', Lb'.Sublist Lb ∧ Sl E sz (.slice (if c = l then a else a.map (·.add (l * sz))) (n - l) (c - l)) (n - l) (xs.drop (l * sz)) Lb' := by
  obtain ⟨h1, h2, h3⟩ := h
  have hlen : (xs.drop (l * sz)).length = (n - l) * sz := by rw [List.length_drop, h1, Nat.sub_mul]
  have aa : OneCell (xs.drop (l * sz)) := fun v hv => h2 v (List.mem_of_mem_drop hv)
  rcases h3 with ⟨a', hv, rfl, rfl⟩ | ⟨g, cap, pre, sp, hv, h4, h5, h6, rfl⟩
  · cases hv
    obtain rfl : l = 0 := by omega
    exact ⟨[], List.Sublist.refl _, hlen, aa, .inl ⟨a, by simp, rfl, rfl⟩⟩
  · cases hv
    by_cases hc : c = l
    · have ab : n - l = 0 := by omega
      have ad : c - l = 0 := by omega
      rw [if_pos hc]
      refine ⟨[], List.nil_sublist _, hlen, aa, .inl ⟨_, by rw [ab, ad], ab, rfl⟩⟩
    · have ae : l * sz ≤ xs.length := by rw [h1]; exact Nat.mul_le_mul_right _ hl
      refine ⟨_, List.Sublist.refl _, hlen, aa, .inr ⟨g, c - l, pre ++ xs.take (l * sz), sp, ?_, by omega, by omega, ?_, ?_⟩⟩
      · rw [if_neg hc]; simp [add_lit, List.length_append, List.length_take, Nat.min_eq_left ae]
      · rw [List.length_drop, Nat.sub_mul]; omega
      · simp only [List.append_assoc]
        rw [← List.append_assoc (xs.take (l * sz)), List.take_append_drop]
theorem St.JB {K : Ctx} {M : List Nat} {w : World} : ∀ (Lb : LH) {F : FS} {Lr : LH}, St K M F (Lb ++ Lr) w → (∀ p ∈ Lb, K.w0.heap.size ≤ p.1) → ∃ F', St K M F' Lr w ∧ AQ F F' ∧ ∀ p ∈ Lb, F' p.1 = some p.2
  | [], F, Lr, h, _ => ⟨F, h, AQ.refl F, fun p hp => by simp at hp⟩
  | (b, o) :: Lb, F, Lr, h, hn => by
    obtain ⟨F1, h1, h2, h3⟩ := h.freeze (i := 0) (b := b) (o := o) rfl (hn (b, o) (List.mem_cons_self ..))
    obtain ⟨F2, h4, h5, h6⟩ := St.JB Lb (F := F1) (Lr := Lr) (by simpa using h1) (fun p hp => hn p (List.mem_cons_of_mem _ hp))
    refine ⟨F2, h4, h2.trans h5, fun p hp => ?_⟩
    rcases List.mem_cons.1 hp with rfl | hp
    · exact h5 _ _ h3
    · exact h6 p hp
theorem Sl.row {E sz : Nat} {v : Value} {n : Nat} {xs : List Value} {Lb : LH} (h : Sl E sz v n xs Lb) {F' : FS} (hF : ∀ p ∈ Lb, F' p.1 = some p.2) : ∃ a cap, v = .slice a n cap ∧ Row F' sz a n cap xs := by
  obtain ⟨h0, h1, h2⟩ := h
  rcases h2 with ⟨a, rfl, rfl, rfl⟩ | ⟨g, cap, pre, sp, rfl, h3, h4, h5, rfl⟩
  · exact ⟨a, 0, rfl, by simpa using h0, Nat.le_refl _, Nat.zero_le _, h1, .inl rfl⟩
  · refine ⟨_, cap, rfl, h0, h3, h4, h1, .inr ⟨g, pre.length, _, E, _, rfl, hF _ (List.mem_cons_self ..), ?_, fun j hj => ?_⟩⟩
    · simp; omega
    · simp only [List.getElem?_toArray]
      rw [List.append_assoc, List.getElem?_append_right (by omega), List.getElem?_append_left (by omega), Nat.add_sub_cancel_left]
def Src (F : FS) (L : LH) (sz : Nat) (a : Option Addr) (m : Nat) (xs : List Value) : Prop :=
  xs.length = m * sz ∧ OneCell xs ∧ (m = 0 ∨ ∃ b o c, a = some ⟨b, o, none⟩ ∧ Has F L b c ∧ o + m * sz ≤ c.size ∧ ∀ j, j < m * sz → c[o + j]? = xs[j]?)
theorem Row.src {F : FS} {L : LH} {sz : Nat} {a : Option Addr} {n cap : Nat} {xs : List Value} (h : Row F sz a n cap xs) : Src F L sz a n xs :=
  ⟨h.len, h.one, h.cells.imp id fun ⟨b, o, c, _, _, h1, h2, h3, h4⟩ => ⟨b, o, c, h1, .frozen h2, h3, h4⟩⟩
theorem Src.run {P : Program} {K : Ctx} {M : List Nat} {F : FS} {L : LH} {w w' : World} {sz : Nat} {a : Option Addr} {m cap : Nat} {xs : List Value} (h : Src F L sz a m xs) (hs : St K M F L w) (hw : w'.heap = w.heap) :
    (Builtin.firstCells sz m (.slice a m cap)).run P w' = .ok xs.toArray w' := by
  obtain ⟨h1, h2, h3⟩ := h
  rcases h3 with rfl | ⟨b, o, c, rfl, h4, h5, h6⟩
  · have : xs = [] := List.eq_nil_of_length_eq_zero (by simpa using h1)
    subst this
    cases a <;> simp [Builtin.firstCells, loadCells, loadCellsFrom]
  · obtain ⟨E, fz, hh⟩ := h4.heap hs
    rw [← hw] at hh
    have := run_loadCells (P := P) hh (n := m * sz) (o := o) h5
    simp only [Builtin.firstCells, this]
    congr 1
    apply Array.ext'
    apply List.ext_getElem?
    intro j
    simp only [Array.toList_extract, List.extract_eq_take_drop, List.getElem?_take, List.getElem?_drop]
    by_cases hj : j < m * sz
    · rw [if_pos (by omega)]; simpa using h6 j hj
    · rw [if_neg (by omega)]; simp; omega
section
variable {P : Program} {N : Nat} {r : Option Nat} {K : Ctx} {ops : Array Oper} {Q : Env → FS → LH → Prop} {rest : List Oper} {e : Env} {F : FS} {L : LH}
variable {ty : TypeId} {pos : String} {after : Array Edge} {d : Option Nat}
theorem IE (vs : List Value) : ∀ (c : Array Value) (o : Nat), o + vs.length ≤ c.size → ((vs.zipIdx o).foldl (fun c p => c.setIfInBounds p.2 p.1) c).toList = c.toList.take o ++ vs ++ c.toList.drop (o + vs.length) := by
  induction vs with
  | nil => intro c o _; simp
  | cons v vs ih =>
    intro c o h
    simp only [List.zipIdx_cons, List.foldl_cons]
    rw [ih _ _ (by simp at h ⊢; omega)]
    have := list_seg_step c.toList o v vs (by simp at h ⊢; omega)
    simpa [Array.toList_setIfInBounds] using this
theorem Ni {T E sz bytes : Nat} {z : Value} (hT : EN P T E sz z bytes) {w : World} {b a2 : Option Addr} {n cap m c2 : Nat} {xs ys : List Value} (h1 : (Builtin.firstCells sz n (.slice b n cap)).run P w.drew = .ok xs.toArray w.drew)
    (h2 : (Builtin.firstCells sz m (.slice a2 m c2)).run P w.drew = .ok ys.toArray w.drew) (hg : cap < n + m) (hn : n + m ≤ maxLen) (hb : (n + m) * bytes ≤ 140737488355328) :
    (Builtin.append_ #[T, T] ty #[.slice b n cap, .slice a2 m c2]).run P w =
      .ok (.slice (some ⟨w.heap.size, 0, none⟩) (n + m) (grownCap w (n + m) cap E)) (w.drew.alloc (.cells ((xs ++ ys) ++ (Builtin.zeroCells z.cells (grownCap w (n + m) cap E - (n + m))).toList).toArray E)) := by
  obtain ⟨i, ad, ae, ah, ai⟩ := hT.info
  subst ah; subst ai
  have aj : ¬ (n + m ≤ cap) := by omega
  have aa : ¬ (9223372036854775807 < ((n : Int) + (m : Int))) := by have := hn; simp only [maxLen] at this; omega
  have ab : ¬ (281474976710656 < Builtin.nextslicecap (n + m) cap * i.bytes) := by have := growslice_fits (need := n + m) (old := cap) (by omega) hb; omega
  simp [Builtin.append_, run_underlying hT.Qw, sizeOf, typeInfo, zeroValue, ad, ae, Builtin.lenOf, aj, aa, ab, Question.forced, h1, h2, newRow, grownCap]
  congr 2
  apply Array.ext'
  simp
theorem Ra {T E : TypeId} {x y : Operand} {sz bytes : Nat} {z v : Value} {n m c2 : Nat} {xs ys : List Value} {a2 : Option Addr} {l1 Lb Lr : LH} (hd : CW N d = true) (hT : EN P T E sz z bytes) (hx : ev e x = some v) (hy : ev e y = some (.slice a2 m c2))
    (hL : L = l1 ++ (Lb ++ Lr)) (aa : Sl E sz v n xs Lb) (ab : Src F L sz a2 m ys) (hn : n + m ≤ maxLen) (hb : (n + m) * bytes ≤ 140737488355328)
    (k : ∀ v' Lb', Sl E sz v' (n + m) (xs ++ ys) Lb' → (∀ p ∈ Lb', p.1 ∈ keys Lb ∨ K.w0.heap.size ≤ p.1) → Ct P N r K ops Q rest (e.put d v') F (l1 ++ (Lb' ++ Lr))) :
    Ct P N r K ops Q (⟨d, .call ⟨.builtin .append, #[x, y], #[T, T]⟩, ty, pos, after, none⟩ :: rest) e F L := by
  refine Jl hd (by intro c h; cases h) fun M a w ha hs => ?_
  have hlen : (xs ++ ys).length = (n + m) * sz := by rw [List.length_append, aa.1, ab.1, Nat.add_mul]
  have ah : OneCell (xs ++ ys) := fun v hv => (List.mem_append.1 hv).elim (aa.2.1 v) (ab.2.1 v)
  have hex : ∀ (v' : Value) (w' : World), (Builtin.append_ #[T, T] ty #[v, .slice a2 m c2]).run P w = .ok v' w' → (execOp a.eval ⟨d, .call ⟨.builtin .append, #[x, y], #[T, T]⟩, ty, pos, after, none⟩).run P w = .ok (.value v') w' := fun v' w' h => by
    simp [execOp, resolve, invoke, builtin, ha.ev hx, ha.ev hy, h]
  -- the slice grows
  have ae : ∀ (b : Option Addr) (cap : Nat), v = .slice b n cap → cap < n + m → (Builtin.firstCells sz n (.slice b n cap)).run P w.drew = .ok xs.toArray w.drew →
      ∃ v' F' L' w', (execOp a.eval ⟨d, .call ⟨.builtin .append, #[x, y], #[T, T]⟩, ty, pos, after, none⟩).run P w = .ok (.value v') w' ∧ St K M F' L' w' ∧ Ct P N r K ops Q rest (e.put d v') F' L' := by
    intro b cap hv hg h1
    subst hv
    have hr := Ni (ty := ty) (c2 := c2) hT h1 (ab.run hs rfl) hg hn hb
    have ar := grownCap_ge w (n + m) cap E
    have hle := grownCap_le_maxLen w (n + m) cap E hn
    have au := (hs.drew).push (.cells ((xs ++ ys) ++ (Builtin.zeroCells z.cells (grownCap w (n + m) cap E - (n + m))).toList).toArray E)
    have ai : ((w.heap.size, Obj.cells ((xs ++ ys) ++ (Builtin.zeroCells z.cells (grownCap w (n + m) cap E - (n + m))).toList).toArray E (0, 0)) :: (l1 ++ Lr)).Sublist ((w.heap.size, Obj.cells ((xs ++ ys) ++ (Builtin.zeroCells z.cells (grownCap w (n + m) cap E - (n + m))).toList).toArray E (0, 0)) :: L) := by
      rw [hL]
      exact List.Sublist.cons_cons _ (List.Sublist.append (List.Sublist.refl _) (List.sublist_append_right _ _))
    have av := (au.1.drop ai).perm (L' := l1 ++ ([(w.heap.size, Obj.cells ((xs ++ ys) ++ (Builtin.zeroCells z.cells (grownCap w (n + m) cap E - (n + m))).toList).toArray E (0, 0))] ++ Lr)) List.perm_middle.symm
    refine ⟨_, F, _, _, hex _ _ hr, av, k _ _ ⟨hlen, ah, .inr ⟨w.heap.size, _, [], _, rfl, ar, hle, ?_, rfl⟩⟩ fun p hp => ?_⟩
    · rw [hlen]
      simp only [Array.length_toList, size_zeroCells, hT.zero, ← Nat.add_mul]
      congr 1; omega
    · simp at hp; subst hp; exact .inr hs.Fw.size
  rcases aa.2.2 with ⟨a0, rfl, rfl, rfl⟩ | ⟨g, cap, pre, sp, rfl, h1, h2, h3, rfl⟩
  · have aw : ∀ w', (Builtin.firstCells sz 0 (.slice a0 0 0)).run P w' = .ok (List.toArray []) w' := fun w' => by cases a0 <;> simp [Builtin.firstCells, loadCells, loadCellsFrom]
    have ax : xs = [] := List.eq_nil_of_length_eq_zero (by simpa using aa.1)
    subst ax
    by_cases hm : m = 0
    · subst hm
      have ay : ys = [] := List.eq_nil_of_length_eq_zero (by simpa using ab.1)
      subst ay
      refine ⟨.slice a0 0 0, F, L, w, hex _ _ ?_, hs, ?_⟩
      · have hf := ab.run (P := P) (cap := c2) hs rfl
        obtain ⟨i, aj, az, ak, ba⟩ := hT.info
        subst ak
        cases a0 <;> simp [Builtin.append_, run_underlying hT.Qw, sizeOf, typeInfo, aj, Builtin.lenOf, hf, storeCells]
      · have := k (.slice a0 0 0) [] ⟨by simp, fun v h => by simp at h, .inl ⟨a0, rfl, rfl, rfl⟩⟩ (fun p hp => by simp at hp)
        rw [hL]; exact this
    · exact ae a0 0 rfl (by omega) (aw _)
  · by_cases ad : n + m ≤ cap
    · have hi : L[l1.length]? = some (g, Obj.cells (pre ++ xs ++ sp).toArray E (0, 0)) := by rw [hL]; simp
      have bd : xs.length + ys.length ≤ xs.length + sp.length := by
        rw [h3, aa.1, ab.1, ← Nat.add_mul]; exact Nat.mul_le_mul_right _ ad
      obtain ⟨w', hr, al⟩ := DV (P := P) ys w L (pre ++ xs ++ sp).toArray (pre.length + n * sz) 0 hs hi (by simp; rw [← aa.1]; omega) ab.2.1
      have ao : (ys.zipIdx (pre.length + n * sz + 0)).foldl (fun c p => c.setIfInBounds p.2 p.1) (pre ++ xs ++ sp).toArray = (pre ++ (xs ++ ys) ++ sp.drop ys.length).toArray := by
        apply Array.ext'
        rw [IE _ _ _ (by simp; rw [← aa.1]; omega)]
        simp only [Nat.add_zero, ← aa.1, ← List.length_append]
        rw [List.take_left]
        simp [List.drop_append]
        rw [List.drop_eq_nil_of_le (by omega), List.drop_eq_nil_of_le (by omega)]; rfl
      rw [ao] at al
      have bb : L.set l1.length (g, Obj.cells (pre ++ (xs ++ ys) ++ sp.drop ys.length).toArray E (0, 0)) = l1 ++ ([(g, Obj.cells (pre ++ (xs ++ ys) ++ sp.drop ys.length).toArray E (0, 0))] ++ Lr) := by rw [hL]; simp
      rw [bb] at al
      refine ⟨.slice (some ⟨g, pre.length, none⟩) (n + m) cap, F, _, w', hex _ _ ?_, al, k _ _ ⟨hlen, ah, .inr ⟨g, cap, pre, _, rfl, ad, h2, ?_, rfl⟩⟩ fun p hp => ?_⟩
      · have hf := ab.run (P := P) (cap := c2) hs rfl
        obtain ⟨i, aj, az, ak, ba⟩ := hT.info
        subst ak
        have aq : (⟨g, pre.length, none⟩ : Addr).add (n * i.size) = ⟨g, pre.length + n * i.size, none⟩ := add_lit ..
        simp [Builtin.append_, run_underlying hT.Qw, sizeOf, typeInfo, aj, Builtin.lenOf, ad, hf, aq, hr]
      · rw [List.length_drop, ← h3, List.length_append]; omega
      · simp at hp; subst hp; exact .inl (by simp [keys])
    · refine ae (some ⟨g, pre.length, none⟩) cap rfl (by omega) ?_
      have hi : L[l1.length]? = some (g, Obj.cells (pre ++ xs ++ sp).toArray E (0, 0)) := by rw [hL]; simp
      have bc : Src F L sz (some ⟨g, pre.length, none⟩) n xs := ⟨aa.1, aa.2.1, .inr ⟨g, pre.length, _, rfl, .own _ hi, by simp; rw [aa.1] ; omega, fun j hj => by
        simp only [List.getElem?_toArray]
        rw [List.append_assoc, List.getElem?_append_right (by omega), Nat.add_sub_cancel_left, List.getElem?_append_left (by rw [aa.1]; exact hj)]⟩⟩
      exact bc.run hs rfl
end
end Go.SH
