/- The calculus, part YD: regions that draw their order, whose operations make things beside each other: each operation is shown once. -/
import Derived.Test.YtdhookifhfkcpaaGreatZBYC
namespace Go.SH
structure N8 where
  dn : List Nat
  d : Nat
  val : (Nat → Nat → Nat) → Value
  pc : (Nat → Nat → Nat) → LH
def PS (β : Nat → Nat → Nat) (i : Nat) (bs : Nat → Nat) : Nat → Nat → Nat := fun j => cond (Nat.beq j i) bs (β j)
theorem QZ {β : Nat → Nat → Nat} {i : Nat} {bs : Nat → Nat} : PS β i bs i = bs := by simp [PS]
theorem Q6 {β : Nat → Nat → Nat} {i j : Nat} {bs : Nat → Nat} (h : j ≠ i) : PS β i bs j = β j := by
  have : Nat.beq j i = false := by rw [Bool.eq_false_iff]; exact fun hh => h (Nat.eq_of_beq_eq_true hh)
  simp [PS, this]
theorem Th {n : Nat} {bs : List Nat} (h : ∀ b ∈ bs, n ≤ b) (k : Nat) : n ≤ bs.getD k n := by
  rw [List.getD_eq_getElem?_getD]
  cases hk : bs[k]? with
  | none => exact Nat.le_refl _
  | some b => exact h b (List.mem_of_getElem? hk)
def DC (D : List N8) (j : Nat) : N8 := D.getD j ⟨[], 0, fun _ => undef, fun _ => []⟩
def PE (D : List N8) (ks : List Nat) (β : Nat → Nat → Nat) : Env := ks.map fun j => ((DC D j).d, (DC D j).val β)
def NY (D : List N8) (ks : List Nat) (β : Nat → Nat → Nat) : LH := ks.flatMap fun j => (DC D j).pc β
def O3 : List Nat → Bool
  | [] => true
  | x :: l => !l.contains x && O3 l
theorem Nu : ∀ {l : List Nat}, O3 l = true → l.Nodup
  | [], _ => List.nodup_nil
  | x :: l, h => by
    simp only [O3, Bool.and_eq_true, Bool.not_eq_true'] at h
    exact List.nodup_cons.2 ⟨fun hm => (by rw [List.contains_iff_mem.2 hm] at h; exact absurd h.1 (by decide)), Nu h.2⟩
def Ot (ops : Array Oper) : Nat → List Nat → List Nat
  | 0, S => S
  | k + 1, S => Ot ops k (bif S.contains k then S ++ KW ops k else S)
theorem Mv {ops : Array Oper} {p : Nat → Prop} (hp : ∀ x, p x → ∀ a ∈ KW ops x, p a) : ∀ (k : Nat) (S : List Nat), (∀ x ∈ S, p x) → ∀ x ∈ Ot ops k S, p x
  | 0, _, h => h
  | k + 1, S, h => by
    unfold Ot
    refine Mv hp k _ ?_
    cases hc : S.contains k with
    | false => exact h
    | true =>
      intro x hx
      rcases List.mem_append.1 hx with hx | hx
      · exact h x hx
      · exact hp k (h k (by simpa using hc)) x hx
def Sd (ops : Array Oper) (N : Nat) (D : List N8) (e : Env) (j : Nat) : Bool :=
  (DC D j).dn.all (fun k => Nat.blt k D.length && ((DC D k).dn.all (DC D j).dn.contains && (KW ops j).any fun a => a == k || (Nat.blt a D.length && (DC D a).dn.contains k))) &&
  (O3 (DC D j).dn && ((DY ops j == some (DC D j).d) && (Nat.ble ((DC D j).d + 1) N && ((e.get (DC D j).d).isNone && (List.range D.length).all fun k => k == j || !((DC D k).d == (DC D j).d)))))
def RZ (ops : Array Oper) (N : Nat) (D : List N8) (e : Env) : Bool :=
  Nat.ble D.length ops.size && ((List.range D.length).all (Sd ops N D e) && ((List.range ops.size).all (fun j => (KW ops j).all (Nat.blt · j)) && (List.range ops.size).all fun j => Nat.blt j D.length || (List.range j).all (Ot ops j (KW ops j)).contains))
structure SA (ops : Array Oper) (N : Nat) (D : List N8) (e : Env) (j : Nat) : Prop where
  lt : ∀ k ∈ (DC D j).dn, k < D.length
  cl : ∀ k ∈ (DC D j).dn, ∀ q ∈ (DC D k).dn, q ∈ (DC D j).dn
  af : ∀ k ∈ (DC D j).dn, ∃ a ∈ KW ops j, a = k ∨ a < D.length ∧ k ∈ (DC D a).dn
  nd : (DC D j).dn.Nodup
  ds : DY ops j = some (DC D j).d
  dN : Nat.ble ((DC D j).d + 1) N = true
  fr : e.get (DC D j).d = none
  ne : ∀ k, k < D.length → k ≠ j → (DC D k).d ≠ (DC D j).d
theorem QH {ops : Array Oper} {N : Nat} {D : List N8} {e : Env} {j : Nat} (h : Sd ops N D e j = true) : SA ops N D e j := by
  simp only [Sd, Bool.and_eq_true] at h
  obtain ⟨h1, h2, h3, h4, h5, h6⟩ := h
  have g := fun k hk => List.all_eq_true.1 h1 k hk
  simp only [Bool.and_eq_true] at g
  refine ⟨fun k hk => by simpa using (g k hk).1, fun k hk q hq => ?_, fun k hk => ?_, Nu h2, by simpa using h3, h4, by simpa using h5, fun k hk aa => ?_⟩
  · simpa using List.all_eq_true.1 (g k hk).2.1 q hq
  · have := (g k hk).2.2
    simp only [List.any_eq_true, Bool.or_eq_true, beq_iff_eq, Bool.and_eq_true] at this
    obtain ⟨a, ha, hh⟩ := this
    exact ⟨a, ha, hh.imp id fun hh => ⟨by simpa using hh.1, by simpa using hh.2⟩⟩
  · have := List.all_eq_true.1 h6 k (List.mem_range.2 hk)
    simpa [aa] using this
section
variable {P : Program} {N : Nat} {r : Option Nat} {K : Ctx}
def Rb (P : Program) (N : Nat) (r : Option Nat) (K : Ctx) (l : List Oper) (D : List N8) (e : Env) (F : FS) (L : LH) (i : Nat) (b : N8) : Prop :=
  (∀ β aa : Nat → Nat → Nat, (∀ k, (i :: b.dn).contains k = true → β k = aa k) → b.val β = b.val aa ∧ b.pc β = b.pc aa) ∧ ∃ o, l[i]? = some o ∧
    ∀ (β : Nat → Nat → Nat) (Lr : LH) (Q : Value → LH → Prop), (∀ bs : Nat → Nat, (∀ k, K.w0.heap.size ≤ bs k) → ∀ L', L'.Perm (b.pc (PS β i bs) ++ (L ++ (NY D b.dn β ++ (Lr ++ [])))) → Q (b.val (PS β i bs)) L') →
      Ct P N r K l.toArray (fun e' F' L' => F' = F ∧ ∃ v, e'.get b.d = some v ∧ Q v L') [o] (e ++ PE D b.dn β) F (L ++ (NY D b.dn β ++ (Lr ++ [])))
inductive N2 (P : Program) (N : Nat) (r : Option Nat) (K : Ctx) (l : List Oper) (D : List N8) (e : Env) (F : FS) (L : LH) : List N8 → Nat → Prop
  | nil {i : Nat} : N2 P N r K l D e F L [] i
  | cons {b : N8} {bs : List N8} {i : Nat} : Rb P N r K l D e F L i b → N2 P N r K l D e F L bs (i + 1) → N2 P N r K l D e F L (b :: bs) i
theorem Qz {l : List Oper} {D : List N8} {e : Env} {F : FS} {L : LH} {bs : List N8} {i : Nat} (h : N2 P N r K l D e F L bs i) : ∀ {j : Nat} {b : N8}, bs[j]? = some b → Rb P N r K l D e F L (i + j) b := by
  induction h with
  | nil => intro j b hc; simp at hc
  | @cons c bs i h1 _ ih =>
    intro j b hc
    cases j with
    | zero => simp only [List.getElem?_cons_zero, Option.some.injEq] at hc; subst hc; exact h1
    | succ j =>
      simp only [List.getElem?_cons_succ] at hc
      have := ih hc
      rwa [show i + 1 + j = i + (j + 1) by omega] at this
theorem Env.OX {e e' : Env} {t : Nat} : (e ++ e').get t = (e.get t).or (e'.get t) := by
  induction e with
  | nil => simp [Env.get]
  | cons x e ih => obtain ⟨k, v⟩ := x; simp only [List.cons_append, Env.get]; cases Nat.beq k t <;> simp [ih]
theorem MH {D : List N8} {β : Nat → Nat → Nat} {t : Nat} {v : Value} : ∀ {ks : List Nat}, (PE D ks β).get t = some v → ∃ k ∈ ks, (DC D k).d = t ∧ (DC D k).val β = v
  | [], h => by simp [PE, Env.get] at h
  | k :: ks, h => by
    simp only [PE, List.map_cons, Env.get] at h
    cases hb : Nat.beq (DC D k).d t with
    | true => rw [hb] at h; exact ⟨k, List.mem_cons_self .., Nat.eq_of_beq_eq_true hb, by simpa using h⟩
    | false =>
      rw [hb] at h
      obtain ⟨q, h1, h2⟩ := MH (ks := ks) (by simpa [PE] using h)
      exact ⟨q, List.mem_cons_of_mem _ h1, h2⟩
theorem Oz {Qp : GI} {l : List Oper} {m : Nat} (ah : ∀ j, j < l.length → ∀ a ∈ KW l.toArray j, a < j) (ak : ∀ j, j < l.length → m ≤ j → ∀ k, k < j → k ∈ Ot l.toArray j (KW l.toArray j)) : ∀ (f k : Nat) (A : Array Bool) (a : Act) (w : World), m ≤ k → k ≤ l.length → l.length - k ≤ f → A.size = l.length → (∀ j, j < l.length → A.getD j false = decide (j < k)) →
    wpListIn (GW r) 0 P l.toArray (fun ex a w => ex = .normal ∧ ∃ M e F L, Ag N M e a ∧ St K M F L w ∧ Qp .normal e F L) (l.drop k) a w → wpAnyIn (GW r) 0 P .any l.toArray (lift N K Qp) f A a w := by
  intro f
  induction f with
  | zero =>
    intro k A a w al hk hf hA ab h
    have : k = l.length := by omega
    subst this
    rw [List.drop_length] at h
    refine ⟨?_, h.2⟩
    rw [List.eq_nil_iff_forall_not_mem]
    intro j hj
    obtain ⟨h1, h2, _⟩ := mem_ready.1 hj
    rw [List.size_toArray] at h1
    rw [I8 (by rw [hA]; exact h1), ab j h1, decide_eq_true h1] at h2; cases h2
  | succ f ih =>
    intro k A a w al hk hf hA ab h
    by_cases ao : k = l.length
    · subst ao
      rw [List.drop_length] at h
      refine ⟨fun _ => h.2, fun j hj => ?_⟩
      obtain ⟨h1, h2, _⟩ := mem_ready.1 hj
      rw [List.size_toArray] at h1
      rw [I8 (by rw [hA]; exact h1), ab j h1, decide_eq_true h1] at h2; cases h2
    · have ad : k < l.length := by omega
      have ai : k ∈ Region.ready .any l.toArray A := mem_ready.2 ⟨by simpa using ad, by rw [I8 (by rw [hA]; exact ad), ab k ad]; simp, fun j hj => by
        have := ah k ad j hj
        rw [ab j (by omega), decide_eq_true this]⟩
      refine ⟨fun h0 => (by rw [h0] at ai; cases ai), fun j hj => ?_⟩
      obtain ⟨h1, h2, h3⟩ := mem_ready.1 hj
      rw [List.size_toArray] at h1
      rw [I8 (by rw [hA]; exact h1), ab j h1] at h2
      have aw : ¬ j < k := by simpa using h2
      have : j = k := by
        by_cases aq : k < j
        · have := Mv (p := fun x => A.getD x false = true) (fun x hx a ha => by
            have aj : x < l.length := by
              refine Classical.byContradiction fun hn => ?_
              have ar : A.getD x false = true := hx
              have au : ¬ x < A.size := by rw [hA]; exact hn
              simp [Array.getD, au] at ar
            have ax : x < k := by rw [ab x aj] at hx; simpa using hx
            have ay := ah x aj a ha
            show A.getD a false = true
            rw [ab a (by omega), decide_eq_true (by omega)]) j (KW l.toArray j) h3 k (ak j h1 (by omega) k aq)
          rw [ab k ad] at this; simp at this
        · omega
      subst this
      rw [List.drop_eq_getElem_cons ad] at h
      have ho : l.toArray[j]? = some l[j] := by simp [ad]
      unfold wpOpIn
      simp only [ho]
      unfold wpListIn at h
      have ae : ∀ q, q < l.length → (A.setIfInBounds j true).getD q false = decide (q < j + 1) := fun q hq => by
        by_cases av : q = j
        · subst av; simp [Array.getD, hA, hq]
        · have h5 : (A.setIfInBounds j true).getD q false = A.getD q false := by
            simp only [Array.getD_eq_getD_getElem?]; rw [Array.getElem?_setIfInBounds_ne (by omega)]
          rw [h5, ab q hq]; congr 1; apply propext; omega
      split at h
      · rename_i aa
        rw [if_pos aa]
        exact JP (fun a' w' hn _ => ih (j + 1) _ _ _ (by omega) (by omega) (by omega) (by simpa using hA) ae hn) (fun _ _ _ hq => hq.1) h
      · rename_i aa
        rw [if_neg aa]
        exact ⟨h.1, ih (j + 1) _ _ _ (by omega) (by omega) (by omega) (by simpa using hA) ae h.2⟩
structure Td (ops : Array Oper) (K : Ctx) (n : Nat) (D : List N8) (e0 : Env) (L0 : LH) (A : Array Bool) (β : Nat → Nat → Nat) (e : Env) (L : LH) : Prop where
  sz : A.size = n
  hi : ∀ j, D.length ≤ j → A.getD j false = false
  hb : ∀ i k, K.w0.heap.size ≤ β i k
  cl : ∀ j, A.getD j false = true → ∀ k ∈ (DC D j).dn, A.getD k false = true
  ca : ∀ j, A.getD j false = true → ∀ k ∈ KW ops j, A.getD k false = true
  e0 : e.sub e0
  ev : ∀ j, j < D.length → A.getD j false = true → e.get (DC D j).d = some ((DC D j).val β)
  hL : L.Perm (NY D ((List.range D.length).filter fun j => A.getD j false) β ++ L0)
theorem PA {D : List N8} {β : Nat → Nat → Nat} {k1 k2 : List Nat} (h : k1.Perm k2) : (NY D k1 β).Perm (NY D k2 β) := by
  unfold NY
  induction h with
  | nil => exact .refl _
  | cons x _ ih => rw [List.flatMap_cons, List.flatMap_cons]; exact ih.append_left _
  | swap x y l => rw [List.flatMap_cons, List.flatMap_cons, List.flatMap_cons, List.flatMap_cons, ← List.append_assoc, ← List.append_assoc]; exact List.perm_append_comm.append_right _
  | trans _ _ h1 h2 => exact h1.trans h2
theorem RE {D : List N8} {β : Nat → Nat → Nat} {k1 k2 : List Nat} : NY D (k1 ++ k2) β = NY D k1 β ++ NY D k2 β := by simp [NY]
theorem Qy {Qp : GI} {l : List Oper} {D : List N8} {e0 : Env} {F : FS} {L0 : LH} (bd : D.length ≤ l.length) (bp : ∀ j, j < D.length → SA l.toArray N D e0 j) (al : ∀ j, j < l.length → ∀ a ∈ KW l.toArray j, a < j) (ao : ∀ j, j < l.length → D.length ≤ j → ∀ k, k < j → k ∈ Ot l.toArray j (KW l.toArray j))
    (bg : ∀ i, i < D.length → Rb P N r K l D e0 F L0 i (DC D i))
    (hf : ∀ (β : Nat → Nat → Nat) (e : Env) (L : LH), (∀ i k, K.w0.heap.size ≤ β i k) → e.sub (e0 ++ PE D (List.range D.length) β) → L.Perm (NY D (List.range D.length) β ++ L0) → Ct P N r K l.toArray (Qp .normal) (l.drop D.length) e F L) :
    ∀ (f : Nat) (A : Array Bool) (β : Nat → Nat → Nat) (e : Env) (L : LH), Td l.toArray K l.length D e0 L0 A β e L → ((List.range l.length).filter fun i => !A.getD i false).length ≤ f → ∀ M a w, Ag N M e a → St K M F L w → wpAnyIn (GW r) 0 P .any l.toArray (lift N K Qp) f A a w := by
  intro f
  induction f with
  | zero =>
    intro A β e L h hc M a w ha hs
    have aa : ∀ j, j < l.length → A.getD j false = true := fun j hj => by
      cases hh : A.getD j false with
      | true => rfl
      | false =>
        have : j ∈ (List.range l.length).filter fun i => !A.getD i false := by simp only [List.mem_filter, List.mem_range, hh]; exact ⟨hj, rfl⟩
        rw [List.length_eq_zero_iff.1 (Nat.le_zero.1 hc)] at this; cases this
    have hn : D.length = l.length := by
      by_cases bh : D.length < l.length
      · have := h.hi D.length (Nat.le_refl _); rw [aa _ bh] at this; cases this
      · omega
    refine Oz (m := D.length) al ao 0 D.length A a w (Nat.le_refl _) bd (by omega) h.sz (fun j hj => by rw [aa j hj, decide_eq_true (by omega)]) (hf β e L h.hb (fun t v ht => ?_) ?_ M a w ha hs)
    · rw [Env.OX] at ht
      cases h0 : e0.get t with
      | some u => rw [h0] at ht; exact h.e0 t v (by rw [h0]; exact ht)
      | none =>
        rw [h0] at ht
        obtain ⟨k, hk, h1, h2⟩ := MH (by simpa using ht)
        rw [← h1, ← h2]; exact h.ev k (List.mem_range.1 hk) (aa k (by have := List.mem_range.1 hk; omega))
    · have : ((List.range D.length).filter fun j => A.getD j false) = List.range D.length := List.filter_eq_self.2 fun j hj => aa j (by have := List.mem_range.1 hj; omega)
      rw [← this]; exact h.hL
  | succ f ih =>
    intro A β e L h hc M a w ha hs
    by_cases aa : ∀ j, j < D.length → A.getD j false = true
    · have bq : ∀ j, j < l.length → A.getD j false = decide (j < D.length) := fun j hj => by
        by_cases aq : j < D.length
        · rw [aa j aq, decide_eq_true aq]
        · rw [h.hi j (by omega), decide_eq_false aq]
      have ar : l.length - D.length ≤ f + 1 := by
        refine Nat.le_trans ?_ hc
        have h1 : List.range l.length = List.range D.length ++ List.range' D.length (l.length - D.length) := by
          rw [List.range_eq_range', List.range_eq_range']
          have := List.range'_append_1 (s := 0) (m := D.length) (n := l.length - D.length)
          rw [Nat.zero_add, show D.length + (l.length - D.length) = l.length by omega] at this
          exact this.symm
        rw [h1, List.filter_append, List.length_append]
        have h2 : (List.range' D.length (l.length - D.length)).filter (fun i => !A.getD i false) = List.range' D.length (l.length - D.length) := List.filter_eq_self.2 fun j hj => by
          rw [List.mem_range'_1] at hj; rw [h.hi j hj.1]; rfl
        rw [h2, List.length_range']; omega
      refine Oz (m := D.length) al ao (f + 1) D.length A a w (Nat.le_refl _) bd ar h.sz bq (hf β e L h.hb (fun t v ht => ?_) ?_ M a w ha hs)
      · rw [Env.OX] at ht
        cases h0 : e0.get t with
        | some u => rw [h0] at ht; exact h.e0 t v (by rw [h0]; exact ht)
        | none =>
          rw [h0] at ht
          obtain ⟨k, hk, h1, h2⟩ := MH (by simpa using ht)
          rw [← h1, ← h2]; exact h.ev k (List.mem_range.1 hk) (aa k (List.mem_range.1 hk))
      · have : ((List.range D.length).filter fun j => A.getD j false) = List.range D.length := List.filter_eq_self.2 fun j hj => aa j (List.mem_range.1 hj)
        rw [← this]; exact h.hL
    · -- some are left
      have hex : ∃ j, j < D.length ∧ A.getD j false = false := by
        refine Classical.byContradiction fun au => aa fun j hj => ?_
        cases hh : A.getD j false with
        | true => rfl
        | false => exact absurd ⟨j, hj, hh⟩ au
      have av : ∃ j, j < D.length ∧ A.getD j false = false ∧ ∀ k, k < j → A.getD k false = true := by
        obtain ⟨j, hj⟩ := hex
        induction j using Nat.strongRecOn with
        | ind j br =>
          by_cases hk : ∃ k, k < j ∧ A.getD k false = false
          · obtain ⟨k, aw, bu⟩ := hk
            exact br k aw ⟨by omega, bu⟩
          · refine ⟨j, hj.1, hj.2, fun k aw => ?_⟩
            cases hh : A.getD k false with
            | true => rfl
            | false => exact absurd ⟨k, aw, hh⟩ hk
      obtain ⟨q, cv, bj, bw⟩ := av
      have bk : q ∈ Region.ready .any l.toArray A := mem_ready.2 ⟨by simp; omega, by rw [I8 (by rw [h.sz]; omega)]; exact bj, fun j hj => bw j (al q (by omega) j hj)⟩
      refine ⟨fun h0 => (by rw [h0] at bk; cases bk), fun i hi => ?_⟩
      obtain ⟨h1, h2, h3⟩ := mem_ready.1 hi
      rw [List.size_toArray] at h1
      rw [I8 (by rw [h.sz]; exact h1)] at h2
      have ax : i < D.length := by
        refine Classical.byContradiction fun cw => ?_
        have := Mv (p := fun x => A.getD x false = true) h.ca i (KW l.toArray i) h3 q (ao i h1 (by omega) q (by omega))
        rw [bj] at this; cases this
      have hO := bp i ax
      obtain ⟨bx, o, ho, aj⟩ := bg i ax
      have ay : ∀ k ∈ (DC D i).dn, A.getD k false = true := fun k hk => by
        obtain ⟨x, hx, hh⟩ := hO.af k hk
        rcases hh with rfl | ⟨_, hh⟩
        · exact h3 _ hx
        · exact h.cl x (h3 x hx) k hh
      have bz : o.dst = some (DC D i).d := by
        have := hO.ds
        unfold DY at this
        rw [List.getElem?_toArray, ho] at this
        simpa using this
      -- its blocks lie in front
      have cb : ((List.range D.length).filter fun j => A.getD j false).Perm ((DC D i).dn ++ ((List.range D.length).filter fun j => A.getD j false).filter fun j => !(DC D i).dn.contains j) := by
        refine (List.filter_append_perm (fun j => (DC D i).dn.contains j) _).symm.trans (List.Perm.append_right _ ?_)
        refine (List.perm_ext_iff_of_nodup ((List.nodup_range.filter _).filter _) hO.nd).2 fun k => ?_
        simp only [List.mem_filter, List.mem_range, List.contains_iff_mem]
        exact ⟨fun hh => hh.2, fun hk => ⟨⟨hO.lt k hk, ay k hk⟩, hk⟩⟩
      let Lr := NY D (((List.range D.length).filter fun j => A.getD j false).filter fun j => !(DC D i).dn.contains j) β
      have bl : L.Perm (L0 ++ (NY D (DC D i).dn β ++ (Lr ++ []))) := by
        refine h.hL.trans (List.perm_append_comm.trans ?_)
        rw [List.append_nil, ← RE]
        exact (PA cb).append_left _
      have cc : e.sub (e0 ++ PE D (DC D i).dn β) := fun t v ht => by
        rw [Env.OX] at ht
        cases h0 : e0.get t with
        | some u => rw [h0] at ht; exact h.e0 t v (by rw [h0]; exact ht)
        | none =>
          rw [h0] at ht
          obtain ⟨k, hk, g1, g2⟩ := MH (by simpa using ht)
          rw [← g1, ← g2]; exact h.ev k (hO.lt k hk) (ay k hk)
      have hw := aj β Lr (fun v L' => ∃ bs : Nat → Nat, (∀ k, K.w0.heap.size ≤ bs k) ∧ v = (DC D i).val (PS β i bs) ∧ L'.Perm ((DC D i).pc (PS β i bs) ++ (L0 ++ (NY D (DC D i).dn β ++ (Lr ++ []))))) (fun bs hb L' hp => ⟨bs, hb, rfl, hp⟩) M a w (ha.weaken cc) (hs.perm bl)
      have ak : ∀ a' w', (∃ v, a'.tmps = (a.put o.dst v).tmps) → (∃ M' e' F' L', Ag N M' e' a' ∧ St K M' F' L' w' ∧ F' = F ∧ ∃ v, e'.get (DC D i).d = some v ∧ ∃ bs : Nat → Nat, (∀ k, K.w0.heap.size ≤ bs k) ∧ v = (DC D i).val (PS β i bs) ∧ L'.Perm ((DC D i).pc (PS β i bs) ++ (L0 ++ (NY D (DC D i).dn β ++ (Lr ++ []))))) →
          wpAnyIn (GW r) 0 P .any l.toArray (lift N K Qp) f (A.setIfInBounds i true) a' w' := by
        rintro a' w' ⟨v', cf⟩ ⟨M', e', F', L', az, ba, cg, v, hv, bs, cj, ck, cn⟩
        subst cg
        have cp : Ag N M' (e.put (some (DC D i).d) v) a' := by
          refine ⟨az.ds, az.size, fun t u ht => ?_⟩
          rcases Env.O5 ht with ⟨he, rfl⟩ | ⟨au, hg⟩
          · rw [Option.some.injEq] at he; subst he; exact az.get _ _ hv
          · have cq := ha.get t u hg
            rw [cf, bz]
            simp only [Act.put]
            rw [Array.getElem?_setIfInBounds_ne (by simpa using au)]
            exact cq
        have ai : ∀ q, (A.setIfInBounds i true).getD q false = if q = i then true else A.getD q false := fun q => by
          by_cases bm : q = i
          · subst bm; rw [if_pos rfl]; simp [Array.getD, h.sz, h1]
          · rw [if_neg bm]; simp only [Array.getD_eq_getD_getElem?]; rw [Array.getElem?_setIfInBounds_ne (by omega)]
        have bb : ∀ j, j < D.length → A.getD j false = true → i ∉ j :: (DC D j).dn := fun j _ ab hm => by
          rcases List.mem_cons.1 hm with rfl | hm
          · rw [h2] at ab; cases ab
          · have := h.cl j ab i hm; rw [h2] at this; cases this
        have ah : ∀ j, j < D.length → A.getD j false = true → (DC D j).val β = (DC D j).val (PS β i bs) ∧ (DC D j).pc β = (DC D j).pc (PS β i bs) := fun j hj ab =>
          (bg j hj).1 _ _ fun k hk => (Q6 fun he => bb j hj ab (by rw [← he]; exact List.contains_iff_mem.1 hk)).symm
        refine ih (A.setIfInBounds i true) (PS β i bs) (e.put (some (DC D i).d) v) L' ⟨by simpa using h.sz, fun j hj => ?_, fun j k => ?_, fun j ab k hk => ?_, fun j ab k hk => ?_, fun t u ht => ?_, fun j hj ab => ?_, ?_⟩ ?_ M' a' w' cp ba
        · rw [ai, if_neg (by omega)]; exact h.hi j hj
        · by_cases ae : j = i
          · subst ae; rw [QZ]; exact cj k
          · rw [Q6 ae]; exact h.hb j k
        · rw [ai] at ab ⊢
          split
          · rfl
          · split at ab
            · rename_i ae; subst ae; exact ay k hk
            · exact h.cl j ab k hk
        · rw [ai] at ab ⊢
          split
          · rfl
          · split at ab
            · rename_i ae; subst ae; exact h3 k hk
            · exact h.ca j ab k hk
        · rw [Env.Ib]; exact h.e0 t u ht
          intro he; rw [Option.some.injEq] at he; rw [← he, hO.fr] at ht; cases ht
        · by_cases ae : j = i
          · subst ae; rw [Env.JQ, ck]
          · rw [ai, if_neg ae] at ab
            rw [Env.Ib fun he => hO.ne j hj ae (Option.some.inj he).symm, h.ev j hj ab, (ah j hj ab).1]
        · refine cn.trans ?_
          have cr : ((List.range D.length).filter fun j => (A.setIfInBounds i true).getD j false).Perm (i :: (List.range D.length).filter fun j => A.getD j false) := by
            refine (List.perm_ext_iff_of_nodup (List.nodup_range.filter _) (List.nodup_cons.2 ⟨fun hm => ?_, List.nodup_range.filter _⟩)).2 fun k => ?_
            · have := (List.mem_filter.1 hm).2; rw [h2] at this; cases this
            · simp only [List.mem_filter, List.mem_range, List.mem_cons, ai]
              by_cases bn : k = i
              · subst bn; simp [ax]
              · simp [bn]
          have ct : NY D ((List.range D.length).filter fun j => A.getD j false) (PS β i bs) = NY D ((List.range D.length).filter fun j => A.getD j false) β := by
            unfold NY
            rw [List.flatMap_def, List.flatMap_def]
            refine congrArg List.flatten (List.map_congr_left fun k hk => ?_)
            obtain ⟨k1, k2⟩ := List.mem_filter.1 hk
            exact (ah k (List.mem_range.1 k1) k2).2.symm
          refine List.Perm.trans ?_ ((PA cr).symm.append_right _)
          show List.Perm _ ((NY D (i :: _) _) ++ L0)
          have : NY D (i :: (List.range D.length).filter fun j => A.getD j false) (PS β i bs) = (DC D i).pc (PS β i bs) ++ NY D ((List.range D.length).filter fun j => A.getD j false) β := by
            rw [← ct]; simp [NY]
          rw [this, List.append_assoc]
          refine List.Perm.append_left _ ?_
          exact bl.symm.trans h.hL
        · have bh : ((List.range l.length).filter fun q => !(A.setIfInBounds i true).getD q false).length < ((List.range l.length).filter fun q => !A.getD q false).length := by
            have bc : i ∈ List.range l.length := List.mem_range.2 h1
            obtain ⟨l1, l2, h5⟩ := List.append_of_mem bc
            have bo : (List.range l.length).Nodup := List.nodup_range
            rw [h5] at bo ⊢
            obtain ⟨_, n2, n3⟩ := List.nodup_append.1 bo
            have n4 := (List.nodup_cons.1 n2).1
            have e1 : ∀ l' : List Nat, i ∉ l' → l'.filter (fun q => !(A.setIfInBounds i true).getD q false) = l'.filter fun q => !A.getD q false := fun l' hn => List.filter_congr fun q hq => by
              rw [ai, if_neg fun he => hn (by rw [← he]; exact hq)]
            rw [List.filter_append, List.filter_append, List.filter_cons, List.filter_cons, e1 l1 (fun hm => n3 i hm i (List.mem_cons_self ..) rfl), e1 l2 n4, ai, if_pos rfl, h2]
            simp
          omega
      unfold wpOpIn
      have cu : l.toArray[i]? = some o := by rw [List.getElem?_toArray]; exact ho
      simp only [cu]
      unfold wpListIn at hw
      split at hw
      · rename_i ad
        rw [if_pos ad]
        exact JP (fun a' w' hn hv => ak a' w' hv hn.2) (fun _ _ _ hq => hq.1) hw
      · rename_i ad
        rw [if_neg ad]
        exact ⟨hw.1, ak _ _ ⟨undef, rfl⟩ hw.2.2⟩
theorem OB {Qp : GI} {id : Nat} {l : List Oper} {e : Env} {F : FS} {L : LH} (D : List N8) (hm : P.follows .mixedOrders = true) (h0 : RZ l.toArray N D e = true) (ab : N2 P N r K l D e F L D 0)
    (hf : ∀ (β : Nat → Nat → Nat) (e' : Env) (L' : LH), (∀ i k, K.w0.heap.size ≤ β i k) → e'.sub (e ++ PE D (List.range D.length) β) → L'.Perm (NY D (List.range D.length) β ++ L) → Ct P N r K l.toArray (Qp .normal) (l.drop D.length) e' F L') :
    Gg P N r K (.region id l.toArray true) Qp e F L := fun M a w ha hs => by
  simp only [RZ, Bool.and_eq_true, List.all_eq_true, List.mem_range, List.size_toArray] at h0
  obtain ⟨g1, g2, g3, g4⟩ := h0
  refine wpIn_region_any hm ?_
  have aa : ∀ j, (Array.replicate l.length false).getD j false = false := fun j => by simp [Array.getD]
  have h2 := Qy (Qp := Qp) (by simpa using g1) (fun j hj => QH (g2 j hj)) (fun j hj a ha => by simpa using g3 j hj a ha) (fun j hj ad k hk => by
      have := g4 j hj
      have hn : Nat.blt j D.length = false := by rw [Bool.eq_false_iff]; intro hh; have : j < D.length := by simpa using hh
                                                 omega
      rw [hn, Bool.false_or, List.all_eq_true] at this
      simpa using this k (List.mem_range.2 hk)) (fun i hi => by
      have hg : D[i]? = some (DC D i) := by unfold DC; rw [List.getD_eq_getElem?_getD, List.getElem?_eq_getElem hi]; rfl
      have := Qz ab hg
      rwa [Nat.zero_add] at this) hf l.length (Array.replicate l.length false) (fun _ _ => K.w0.heap.size) e L ⟨by simp, fun j _ => aa j, fun _ _ => Nat.le_refl _, fun j hj => absurd hj (by rw [aa]; decide), fun j hj => absurd hj (by rw [aa]; decide), fun t v ht => ht, fun j _ hj => absurd hj (by rw [aa]; decide), by
        rw [List.filter_eq_nil_iff.2 fun j _ => by rw [aa]; decide]; exact .refl _⟩ (Nat.le_trans (List.length_filter_le ..) (by simp)) M a { w with drawn := w.drawn + 1 } ha hs.drew
  simpa using h2
end
end Go.SH
