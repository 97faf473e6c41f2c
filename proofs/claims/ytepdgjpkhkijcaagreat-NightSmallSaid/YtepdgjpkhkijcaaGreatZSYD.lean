/- The calculus, part YD: regions that draw their order, whose operations make things beside each other: each operation is shown once. -/
import Derived.Test.YtepdgjpkhkijcaaGreatZSYC
namespace Go.SH
structure NC where
  dn : List Nat
  d : Nat
  val : (Nat → Nat → Nat) → Value
  pc : (Nat → Nat → Nat) → LH
def O9 (β : Nat → Nat → Nat) (i : Nat) (bs : Nat → Nat) : Nat → Nat → Nat := fun j => cond (Nat.beq j i) bs (β j)
theorem P0 {β : Nat → Nat → Nat} {i : Nat} {bs : Nat → Nat} : O9 β i bs i = bs := by simp [O9]
theorem Qk {β : Nat → Nat → Nat} {i j : Nat} {bs : Nat → Nat} (h : j ≠ i) : O9 β i bs j = β j := by
  have : Nat.beq j i = false := by rw [Bool.eq_false_iff]; exact fun hh => h (Nat.eq_of_beq_eq_true hh)
  simp [O9, this]
theorem RP {n : Nat} {bs : List Nat} (h : ∀ b ∈ bs, n ≤ b) (k : Nat) : n ≤ bs.getD k n := by
  rw [List.getD_eq_getElem?_getD]
  cases hk : bs[k]? with
  | none => exact Nat.le_refl _
  | some b => exact h b (List.mem_of_getElem? hk)
def Dx (D : List NC) (j : Nat) : NC := D.getD j ⟨[], 0, fun _ => undef, fun _ => []⟩
def OH (D : List NC) (ks : List Nat) (β : Nat → Nat → Nat) : Env := ks.map fun j => ((Dx D j).d, (Dx D j).val β)
def Nj (D : List NC) (ks : List Nat) (β : Nat → Nat → Nat) : LH := ks.flatMap fun j => (Dx D j).pc β
def Oj : List Nat → Bool
  | [] => true
  | x :: l => !l.contains x && Oj l
theorem MN : ∀ {l : List Nat}, Oj l = true → l.Nodup
  | [], _ => List.nodup_nil
  | x :: l, h => by
    simp only [Oj, Bool.and_eq_true, Bool.not_eq_true'] at h
    exact List.nodup_cons.2 ⟨fun hm => (by rw [List.contains_iff_mem.2 hm] at h; exact absurd h.1 (by decide)), MN h.2⟩
def Q0 (ops : Array Oper) (N : Nat) (D : List NC) (e : Env) (j : Nat) : Bool :=
  (Dx D j).dn.all (fun k => Nat.blt k D.length && ((Dx D k).dn.all (Dx D j).dn.contains && (LC ops j).any fun a => a == k || (Nat.blt a D.length && (Dx D a).dn.contains k))) &&
  (Oj (Dx D j).dn && ((DT ops j == some (Dx D j).d) && (Nat.ble ((Dx D j).d + 1) N && ((e.get (Dx D j).d).isNone && (List.range D.length).all fun k => k == j || !((Dx D k).d == (Dx D j).d)))))
def QN (ops : Array Oper) (N : Nat) (D : List NC) (e : Env) : Bool :=
  Nat.ble D.length ops.size && ((List.range D.length).all (Q0 ops N D e) && ((List.range ops.size).all (fun j => (LC ops j).all (Nat.blt · j)) && (List.range ops.size).all fun j => Nat.blt j D.length || (List.range j).all (LC ops j).contains))
structure Rq (ops : Array Oper) (N : Nat) (D : List NC) (e : Env) (j : Nat) : Prop where
  lt : ∀ k ∈ (Dx D j).dn, k < D.length
  cl : ∀ k ∈ (Dx D j).dn, ∀ q ∈ (Dx D k).dn, q ∈ (Dx D j).dn
  af : ∀ k ∈ (Dx D j).dn, ∃ a ∈ LC ops j, a = k ∨ a < D.length ∧ k ∈ (Dx D a).dn
  nd : (Dx D j).dn.Nodup
  ds : DT ops j = some (Dx D j).d
  dN : Nat.ble ((Dx D j).d + 1) N = true
  fr : e.get (Dx D j).d = none
  ne : ∀ k, k < D.length → k ≠ j → (Dx D k).d ≠ (Dx D j).d
theorem PD {ops : Array Oper} {N : Nat} {D : List NC} {e : Env} {j : Nat} (h : Q0 ops N D e j = true) : Rq ops N D e j := by
  simp only [Q0, Bool.and_eq_true] at h
  obtain ⟨h1, h2, h3, h4, h5, h6⟩ := h
  have g := fun k hk => List.all_eq_true.1 h1 k hk
  simp only [Bool.and_eq_true] at g
  refine ⟨fun k hk => by simpa using (g k hk).1, fun k hk q hq => ?_, fun k hk => ?_, MN h2, by simpa using h3, h4, by simpa using h5, fun k hk a6 => ?_⟩
  · simpa using List.all_eq_true.1 (g k hk).2.1 q hq
  · have := (g k hk).2.2
    simp only [List.any_eq_true, Bool.or_eq_true, beq_iff_eq, Bool.and_eq_true] at this
    obtain ⟨a, ha, hh⟩ := this
    exact ⟨a, ha, hh.imp id fun hh => ⟨by simpa using hh.1, by simpa using hh.2⟩⟩
  · have := List.all_eq_true.1 h6 k (List.mem_range.2 hk)
    simpa [a6] using this
section
variable {P : Program} {N : Nat} {r : Option Nat} {K : Ctx}
def PZ (P : Program) (N : Nat) (r : Option Nat) (K : Ctx) (l : List Oper) (D : List NC) (e : Env) (F : FS) (i : Nat) (b : NC) : Prop :=
  (∀ β a6 : Nat → Nat → Nat, (∀ k, (i :: b.dn).contains k = true → β k = a6 k) → b.val β = b.val a6 ∧ b.pc β = b.pc a6) ∧ ∃ o, l[i]? = some o ∧
    ∀ (β : Nat → Nat → Nat) (Lr : LH) (Q : Value → LH → Prop), (∀ bs : Nat → Nat, (∀ k, K.w0.heap.size ≤ bs k) → Q (b.val (O9 β i bs)) (b.pc (O9 β i bs) ++ (Nj D b.dn β ++ (Lr ++ [])))) →
      Cr P N r K l.toArray (fun e' F' L' => F' = F ∧ ∃ v, e'.get b.d = some v ∧ Q v L') [o] (e ++ OH D b.dn β) F (Nj D b.dn β ++ (Lr ++ []))
inductive Nn (P : Program) (N : Nat) (r : Option Nat) (K : Ctx) (l : List Oper) (D : List NC) (e : Env) (F : FS) : List NC → Nat → Prop
  | nil {i : Nat} : Nn P N r K l D e F [] i
  | cons {b : NC} {bs : List NC} {i : Nat} : PZ P N r K l D e F i b → Nn P N r K l D e F bs (i + 1) → Nn P N r K l D e F (b :: bs) i
theorem PJ {l : List Oper} {D : List NC} {e : Env} {F : FS} {bs : List NC} {i : Nat} (h : Nn P N r K l D e F bs i) : ∀ {j : Nat} {b : NC}, bs[j]? = some b → PZ P N r K l D e F (i + j) b := by
  induction h with
  | nil => intro j b hc; simp at hc
  | @cons c bs i h1 _ ih =>
    intro j b hc
    cases j with
    | zero => simp only [List.getElem?_cons_zero, Option.some.injEq] at hc; subst hc; exact h1
    | succ j =>
      simp only [List.getElem?_cons_succ] at hc
      have := ih hc
      rwa [show i + 1 + j = i + (j + 1) by omega] at this
theorem Env.Ow {e e' : Env} {t : Nat} : (e ++ e').get t = (e.get t).or (e'.get t) := by
  induction e with
  | nil => simp [Env.get]
  | cons x e ih => obtain ⟨k, v⟩ := x; simp only [List.cons_append, Env.get]; cases Nat.beq k t <;> simp [ih]
theorem Md {D : List NC} {β : Nat → Nat → Nat} {t : Nat} {v : Value} : ∀ {ks : List Nat}, (OH D ks β).get t = some v → ∃ k ∈ ks, (Dx D k).d = t ∧ (Dx D k).val β = v
  | [], h => by simp [OH, Env.get] at h
  | k :: ks, h => by
    simp only [OH, List.map_cons, Env.get] at h
    cases hb : Nat.beq (Dx D k).d t with
    | true => rw [hb] at h; exact ⟨k, List.mem_cons_self .., Nat.eq_of_beq_eq_true hb, by simpa using h⟩
    | false =>
      rw [hb] at h
      obtain ⟨q, h1, h2⟩ := Md (ks := ks) (by simpa [OH] using h)
      exact ⟨q, List.mem_cons_of_mem _ h1, h2⟩
theorem N1 {Qp : GK} {l : List Oper} {m : Nat} (ah : ∀ j, j < l.length → ∀ a ∈ LC l.toArray j, a < j) (ai : ∀ j, j < l.length → m ≤ j → ∀ k, k < j → k ∈ LC l.toArray j) : ∀ (f k : Nat) (A : Array Bool) (a : Act) (w : World), m ≤ k → k ≤ l.length → l.length - k ≤ f → A.size = l.length → (∀ j, j < l.length → A.getD j false = decide (j < k)) →
    wpListIn (GQ r) 0 P l.toArray (fun ex a w => ex = .normal ∧ ∃ M e F L, Ag N M e a ∧ St K M F L w ∧ Qp .normal e F L) (l.drop k) a w → wpAnyIn (GQ r) 0 P .any l.toArray (lift N K Qp) f A a w := by
  intro f
  induction f with
  | zero =>
    intro k A a w aj hk hf hA aa h
    have : k = l.length := by omega
    subst this
    rw [List.drop_length] at h
    refine ⟨?_, h.2⟩
    rw [List.eq_nil_iff_forall_not_mem]
    intro j hj
    obtain ⟨h1, h2, _⟩ := mem_ready.1 hj
    rw [List.size_toArray] at h1
    rw [I5 (by rw [hA]; exact h1), aa j h1, decide_eq_true h1] at h2; cases h2
  | succ f ih =>
    intro k A a w aj hk hf hA aa h
    by_cases ak : k = l.length
    · subst ak
      rw [List.drop_length] at h
      refine ⟨fun _ => h.2, fun j hj => ?_⟩
      obtain ⟨h1, h2, _⟩ := mem_ready.1 hj
      rw [List.size_toArray] at h1
      rw [I5 (by rw [hA]; exact h1), aa j h1, decide_eq_true h1] at h2; cases h2
    · have ab : k < l.length := by omega
      have ae : k ∈ Region.ready .any l.toArray A := mem_ready.2 ⟨by simpa using ab, by rw [I5 (by rw [hA]; exact ab), aa k ab]; simp, fun j hj => by
        have := ah k ab j hj
        rw [aa j (by omega), decide_eq_true this]⟩
      refine ⟨fun h0 => (by rw [h0] at ae; cases ae), fun j hj => ?_⟩
      obtain ⟨h1, h2, h3⟩ := mem_ready.1 hj
      rw [List.size_toArray] at h1
      rw [I5 (by rw [hA]; exact h1), aa j h1] at h2
      have aq : ¬ j < k := by simpa using h2
      have : j = k := by
        by_cases al : k < j
        · have := h3 k (ai j h1 (by omega) k al)
          rw [aa k ab] at this; simp at this
        · omega
      subst this
      rw [List.drop_eq_getElem_cons ab] at h
      have ho : l.toArray[j]? = some l[j] := by simp [ab]
      unfold wpOpIn
      simp only [ho]
      unfold wpListIn at h
      have ad : ∀ q, q < l.length → (A.setIfInBounds j true).getD q false = decide (q < j + 1) := fun q hq => by
        by_cases ao : q = j
        · subst ao; simp [Array.getD, hA, hq]
        · have h5 : (A.setIfInBounds j true).getD q false = A.getD q false := by
            simp only [Array.getD_eq_getD_getElem?]; rw [Array.getElem?_setIfInBounds_ne (by omega)]
          rw [h5, aa q hq]; congr 1; apply propext; omega
      split at h
      · rename_i a6
        rw [if_pos a6]
        exact JC (fun a' w' hn _ => ih (j + 1) _ _ _ (by omega) (by omega) (by omega) (by simpa using hA) ad hn) (fun _ _ _ hq => hq.1) h
      · rename_i a6
        rw [if_neg a6]
        exact ⟨h.1, ih (j + 1) _ _ _ (by omega) (by omega) (by omega) (by simpa using hA) ad h.2⟩
structure RH (K : Ctx) (n : Nat) (D : List NC) (e0 : Env) (L0 : LH) (A : Array Bool) (β : Nat → Nat → Nat) (e : Env) (L : LH) : Prop where
  sz : A.size = n
  hi : ∀ j, D.length ≤ j → A.getD j false = false
  hb : ∀ i k, K.w0.heap.size ≤ β i k
  cl : ∀ j, A.getD j false = true → ∀ k ∈ (Dx D j).dn, A.getD k false = true
  e0 : e.sub e0
  ev : ∀ j, j < D.length → A.getD j false = true → e.get (Dx D j).d = some ((Dx D j).val β)
  hL : L.Perm (Nj D ((List.range D.length).filter fun j => A.getD j false) β ++ L0)
theorem O3 {D : List NC} {β : Nat → Nat → Nat} {k1 k2 : List Nat} (h : k1.Perm k2) : (Nj D k1 β).Perm (Nj D k2 β) := by
  unfold Nj
  induction h with
  | nil => exact .refl _
  | cons x _ ih => rw [List.flatMap_cons, List.flatMap_cons]; exact ih.append_left _
  | swap x y l => rw [List.flatMap_cons, List.flatMap_cons, List.flatMap_cons, List.flatMap_cons, ← List.append_assoc, ← List.append_assoc]; exact List.perm_append_comm.append_right _
  | trans _ _ h1 h2 => exact h1.trans h2
theorem QE {D : List NC} {β : Nat → Nat → Nat} {k1 k2 : List Nat} : Nj D (k1 ++ k2) β = Nj D k1 β ++ Nj D k2 β := by simp [Nj]
theorem PB {Qp : GK} {l : List Oper} {D : List NC} {e0 : Env} {F : FS} {L0 : LH} (bc : D.length ≤ l.length) (bo : ∀ j, j < D.length → Rq l.toArray N D e0 j) (ak : ∀ j, j < l.length → ∀ a ∈ LC l.toArray j, a < j) (al : ∀ j, j < l.length → D.length ≤ j → ∀ k, k < j → k ∈ LC l.toArray j)
    (bd : ∀ i, i < D.length → PZ P N r K l D e0 F i (Dx D i))
    (hf : ∀ (β : Nat → Nat → Nat) (e : Env) (L : LH), (∀ i k, K.w0.heap.size ≤ β i k) → e.sub (e0 ++ OH D (List.range D.length) β) → L.Perm (Nj D (List.range D.length) β ++ L0) → Cr P N r K l.toArray (Qp .normal) (l.drop D.length) e F L) :
    ∀ (f : Nat) (A : Array Bool) (β : Nat → Nat → Nat) (e : Env) (L : LH), RH K l.length D e0 L0 A β e L → ((List.range l.length).filter fun i => !A.getD i false).length ≤ f → ∀ M a w, Ag N M e a → St K M F L w → wpAnyIn (GQ r) 0 P .any l.toArray (lift N K Qp) f A a w := by
  intro f
  induction f with
  | zero =>
    intro A β e L h hc M a w ha hs
    have a6 : ∀ j, j < l.length → A.getD j false = true := fun j hj => by
      cases hh : A.getD j false with
      | true => rfl
      | false =>
        have : j ∈ (List.range l.length).filter fun i => !A.getD i false := by simp only [List.mem_filter, List.mem_range, hh]; exact ⟨hj, rfl⟩
        rw [List.length_eq_zero_iff.1 (Nat.le_zero.1 hc)] at this; cases this
    have hn : D.length = l.length := by
      by_cases bg : D.length < l.length
      · have := h.hi D.length (Nat.le_refl _); rw [a6 _ bg] at this; cases this
      · omega
    refine N1 (m := D.length) ak al 0 D.length A a w (Nat.le_refl _) bc (by omega) h.sz (fun j hj => by rw [a6 j hj, decide_eq_true (by omega)]) (hf β e L h.hb (fun t v ht => ?_) ?_ M a w ha hs)
    · rw [Env.Ow] at ht
      cases h0 : e0.get t with
      | some u => rw [h0] at ht; exact h.e0 t v (by rw [h0]; exact ht)
      | none =>
        rw [h0] at ht
        obtain ⟨k, hk, h1, h2⟩ := Md (by simpa using ht)
        rw [← h1, ← h2]; exact h.ev k (List.mem_range.1 hk) (a6 k (by have := List.mem_range.1 hk; omega))
    · have : ((List.range D.length).filter fun j => A.getD j false) = List.range D.length := List.filter_eq_self.2 fun j hj => a6 j (by have := List.mem_range.1 hj; omega)
      rw [← this]; exact h.hL
  | succ f ih =>
    intro A β e L h hc M a w ha hs
    by_cases a6 : ∀ j, j < D.length → A.getD j false = true
    · have bp : ∀ j, j < l.length → A.getD j false = decide (j < D.length) := fun j hj => by
        by_cases ao : j < D.length
        · rw [a6 j ao, decide_eq_true ao]
        · rw [h.hi j (by omega), decide_eq_false ao]
      have aq : l.length - D.length ≤ f + 1 := by
        refine Nat.le_trans ?_ hc
        have h1 : List.range l.length = List.range D.length ++ List.range' D.length (l.length - D.length) := by
          rw [List.range_eq_range', List.range_eq_range']
          have := List.range'_append_1 (s := 0) (m := D.length) (n := l.length - D.length)
          rw [Nat.zero_add, show D.length + (l.length - D.length) = l.length by omega] at this
          exact this.symm
        rw [h1, List.filter_append, List.length_append]
        have h2 : (List.range' D.length (l.length - D.length)).filter (fun i => !A.getD i false) = List.range' D.length (l.length - D.length) := List.filter_eq_self.2 fun j hj => by
          rw [List.mem_range'_1] at hj; rw [h.hi j hj.1]; rfl
        rw [h2, List.length_range']; omega
      refine N1 (m := D.length) ak al (f + 1) D.length A a w (Nat.le_refl _) bc aq h.sz bp (hf β e L h.hb (fun t v ht => ?_) ?_ M a w ha hs)
      · rw [Env.Ow] at ht
        cases h0 : e0.get t with
        | some u => rw [h0] at ht; exact h.e0 t v (by rw [h0]; exact ht)
        | none =>
          rw [h0] at ht
          obtain ⟨k, hk, h1, h2⟩ := Md (by simpa using ht)
          rw [← h1, ← h2]; exact h.ev k (List.mem_range.1 hk) (a6 k (List.mem_range.1 hk))
      · have : ((List.range D.length).filter fun j => A.getD j false) = List.range D.length := List.filter_eq_self.2 fun j hj => a6 j (List.mem_range.1 hj)
        rw [← this]; exact h.hL
    · -- some are left
      have hex : ∃ j, j < D.length ∧ A.getD j false = false := by
        refine Classical.byContradiction fun ar => a6 fun j hj => ?_
        cases hh : A.getD j false with
        | true => rfl
        | false => exact absurd ⟨j, hj, hh⟩ ar
      have au : ∃ j, j < D.length ∧ A.getD j false = false ∧ ∀ k, k < j → A.getD k false = true := by
        obtain ⟨j, hj⟩ := hex
        induction j using Nat.strongRecOn with
        | ind j bq =>
          by_cases hk : ∃ k, k < j ∧ A.getD k false = false
          · obtain ⟨k, av, br⟩ := hk
            exact bq k av ⟨by omega, br⟩
          · refine ⟨j, hj.1, hj.2, fun k av => ?_⟩
            cases hh : A.getD k false with
            | true => rfl
            | false => exact absurd ⟨k, av, hh⟩ hk
      obtain ⟨q, cr, bh, bu⟩ := au
      have bj : q ∈ Region.ready .any l.toArray A := mem_ready.2 ⟨by simp; omega, by rw [I5 (by rw [h.sz]; omega)]; exact bh, fun j hj => bu j (ak q (by omega) j hj)⟩
      refine ⟨fun h0 => (by rw [h0] at bj; cases bj), fun i hi => ?_⟩
      obtain ⟨h1, h2, h3⟩ := mem_ready.1 hi
      rw [List.size_toArray] at h1
      rw [I5 (by rw [h.sz]; exact h1)] at h2
      have aw : i < D.length := by
        refine Classical.byContradiction fun ct => ?_
        have := h3 q (al i h1 (by omega) q (by omega))
        rw [bh] at this; cases this
      have hO := bo i aw
      obtain ⟨bw, o, ho, ai⟩ := bd i aw
      have ax : ∀ k ∈ (Dx D i).dn, A.getD k false = true := fun k hk => by
        obtain ⟨x, hx, hh⟩ := hO.af k hk
        rcases hh with rfl | ⟨_, hh⟩
        · exact h3 _ hx
        · exact h.cl x (h3 x hx) k hh
      have bx : o.dst = some (Dx D i).d := by
        have := hO.ds
        unfold DT at this
        rw [List.getElem?_toArray, ho] at this
        simpa using this
      -- its blocks lie in front
      have bz : ((List.range D.length).filter fun j => A.getD j false).Perm ((Dx D i).dn ++ ((List.range D.length).filter fun j => A.getD j false).filter fun j => !(Dx D i).dn.contains j) := by
        refine (List.filter_append_perm (fun j => (Dx D i).dn.contains j) _).symm.trans (List.Perm.append_right _ ?_)
        refine (List.perm_ext_iff_of_nodup ((List.nodup_range.filter _).filter _) hO.nd).2 fun k => ?_
        simp only [List.mem_filter, List.mem_range, List.contains_iff_mem]
        exact ⟨fun hh => hh.2, fun hk => ⟨⟨hO.lt k hk, ax k hk⟩, hk⟩⟩
      let Lr := Nj D (((List.range D.length).filter fun j => A.getD j false).filter fun j => !(Dx D i).dn.contains j) β ++ L0
      have bk : L.Perm (Nj D (Dx D i).dn β ++ Lr) := by
        refine h.hL.trans ?_
        show List.Perm _ (_ ++ (_ ++ _))
        rw [← List.append_assoc, ← QE]
        exact (O3 bz).append_right _
      have ca : e.sub (e0 ++ OH D (Dx D i).dn β) := fun t v ht => by
        rw [Env.Ow] at ht
        cases h0 : e0.get t with
        | some u => rw [h0] at ht; exact h.e0 t v (by rw [h0]; exact ht)
        | none =>
          rw [h0] at ht
          obtain ⟨k, hk, g1, g2⟩ := Md (by simpa using ht)
          rw [← g1, ← g2]; exact h.ev k (hO.lt k hk) (ax k hk)
      have hw := ai β Lr (fun v L' => ∃ bs : Nat → Nat, (∀ k, K.w0.heap.size ≤ bs k) ∧ v = (Dx D i).val (O9 β i bs) ∧ L' = (Dx D i).pc (O9 β i bs) ++ (Nj D (Dx D i).dn β ++ Lr)) (fun bs hb => ⟨bs, hb, rfl, by rw [List.append_nil]⟩) M a w (ha.weaken ca) (by rw [List.append_nil]; exact hs.perm bk)
      have aj : ∀ a' w', (∃ v, a'.tmps = (a.put o.dst v).tmps) → (∃ M' e' F' L', Ag N M' e' a' ∧ St K M' F' L' w' ∧ F' = F ∧ ∃ v, e'.get (Dx D i).d = some v ∧ ∃ bs : Nat → Nat, (∀ k, K.w0.heap.size ≤ bs k) ∧ v = (Dx D i).val (O9 β i bs) ∧ L' = (Dx D i).pc (O9 β i bs) ++ (Nj D (Dx D i).dn β ++ Lr)) →
          wpAnyIn (GQ r) 0 P .any l.toArray (lift N K Qp) f (A.setIfInBounds i true) a' w' := by
        rintro a' w' ⟨v', cb⟩ ⟨M', e', F', L', ay, az, cc, v, hv, bs, cd, cf, cg⟩
        subst cc
        have cj : Ag N M' (e.put (some (Dx D i).d) v) a' := by
          refine ⟨ay.ds, ay.size, fun t u ht => ?_⟩
          rcases Env.Ok ht with ⟨he, rfl⟩ | ⟨ar, hg⟩
          · rw [Option.some.injEq] at he; subst he; exact ay.get _ _ hv
          · have ck := ha.get t u hg
            rw [cb, bx]
            simp only [Act.put]
            rw [Array.getElem?_setIfInBounds_ne (by simpa using ar)]
            exact ck
        have ah : ∀ q, (A.setIfInBounds i true).getD q false = if q = i then true else A.getD q false := fun q => by
          by_cases bl : q = i
          · subst bl; rw [if_pos rfl]; simp [Array.getD, h.sz, h1]
          · rw [if_neg bl]; simp only [Array.getD_eq_getD_getElem?]; rw [Array.getElem?_setIfInBounds_ne (by omega)]
        have ba : ∀ j, j < D.length → A.getD j false = true → i ∉ j :: (Dx D j).dn := fun j _ aa hm => by
          rcases List.mem_cons.1 hm with rfl | hm
          · rw [h2] at aa; cases aa
          · have := h.cl j aa i hm; rw [h2] at this; cases this
        have ad : ∀ j, j < D.length → A.getD j false = true → (Dx D j).val β = (Dx D j).val (O9 β i bs) ∧ (Dx D j).pc β = (Dx D j).pc (O9 β i bs) := fun j hj aa =>
          (bd j hj).1 _ _ fun k hk => (Qk fun he => ba j hj aa (by rw [← he]; exact List.contains_iff_mem.1 hk)).symm
        refine ih (A.setIfInBounds i true) (O9 β i bs) (e.put (some (Dx D i).d) v) L' ⟨by simpa using h.sz, fun j hj => ?_, fun j k => ?_, fun j aa k hk => ?_, fun t u ht => ?_, fun j hj aa => ?_, ?_⟩ ?_ M' a' w' cj az
        · rw [ah, if_neg (by omega)]; exact h.hi j hj
        · by_cases ae : j = i
          · subst ae; rw [P0]; exact cd k
          · rw [Qk ae]; exact h.hb j k
        · rw [ah] at aa ⊢
          split
          · rfl
          · split at aa
            · rename_i ae; subst ae; exact ax k hk
            · exact h.cl j aa k hk
        · rw [Env.Im]; exact h.e0 t u ht
          intro he; rw [Option.some.injEq] at he; rw [← he, hO.fr] at ht; cases ht
        · by_cases ae : j = i
          · subst ae; rw [Env.JG, cf]
          · rw [ah, if_neg ae] at aa
            rw [Env.Im fun he => hO.ne j hj ae (Option.some.inj he).symm, h.ev j hj aa, (ad j hj aa).1]
        · rw [cg]
          have cn : ((List.range D.length).filter fun j => (A.setIfInBounds i true).getD j false).Perm (i :: (List.range D.length).filter fun j => A.getD j false) := by
            refine (List.perm_ext_iff_of_nodup (List.nodup_range.filter _) (List.nodup_cons.2 ⟨fun hm => ?_, List.nodup_range.filter _⟩)).2 fun k => ?_
            · have := (List.mem_filter.1 hm).2; rw [h2] at this; cases this
            · simp only [List.mem_filter, List.mem_range, List.mem_cons, ah]
              by_cases bm : k = i
              · subst bm; simp [aw]
              · simp [bm]
          have cp : Nj D ((List.range D.length).filter fun j => A.getD j false) (O9 β i bs) = Nj D ((List.range D.length).filter fun j => A.getD j false) β := by
            unfold Nj
            rw [List.flatMap_def, List.flatMap_def]
            refine congrArg List.flatten (List.map_congr_left fun k hk => ?_)
            obtain ⟨k1, k2⟩ := List.mem_filter.1 hk
            exact (ad k (List.mem_range.1 k1) k2).2.symm
          refine List.Perm.trans ?_ ((O3 cn).symm.append_right _)
          show List.Perm _ ((Nj D (i :: _) _) ++ L0)
          have : Nj D (i :: (List.range D.length).filter fun j => A.getD j false) (O9 β i bs) = (Dx D i).pc (O9 β i bs) ++ Nj D ((List.range D.length).filter fun j => A.getD j false) β := by
            rw [← cp]; simp [Nj]
          rw [this, List.append_assoc]
          refine List.Perm.append_left _ ?_
          exact bk.symm.trans h.hL
        · have bg : ((List.range l.length).filter fun q => !(A.setIfInBounds i true).getD q false).length < ((List.range l.length).filter fun q => !A.getD q false).length := by
            have bb : i ∈ List.range l.length := List.mem_range.2 h1
            obtain ⟨l1, l2, h5⟩ := List.append_of_mem bb
            have bn : (List.range l.length).Nodup := List.nodup_range
            rw [h5] at bn ⊢
            obtain ⟨_, n2, n3⟩ := List.nodup_append.1 bn
            have n4 := (List.nodup_cons.1 n2).1
            have e1 : ∀ l' : List Nat, i ∉ l' → l'.filter (fun q => !(A.setIfInBounds i true).getD q false) = l'.filter fun q => !A.getD q false := fun l' hn => List.filter_congr fun q hq => by
              rw [ah, if_neg fun he => hn (by rw [← he]; exact hq)]
            rw [List.filter_append, List.filter_append, List.filter_cons, List.filter_cons, e1 l1 (fun hm => n3 i hm i (List.mem_cons_self ..) rfl), e1 l2 n4, ah, if_pos rfl, h2]
            simp
          omega
      unfold wpOpIn
      have cq : l.toArray[i]? = some o := by rw [List.getElem?_toArray]; exact ho
      simp only [cq]
      unfold wpListIn at hw
      split at hw
      · rename_i ab
        rw [if_pos ab]
        exact JC (fun a' w' hn hv => aj a' w' hv hn.2) (fun _ _ _ hq => hq.1) hw
      · rename_i ab
        rw [if_neg ab]
        exact ⟨hw.1, aj _ _ ⟨undef, rfl⟩ hw.2.2⟩
theorem NW {Qp : GK} {id : Nat} {l : List Oper} {e : Env} {F : FS} {L : LH} (D : List NC) (hm : P.follows .mixedOrders = true) (h0 : QN l.toArray N D e = true) (aa : Nn P N r K l D e F D 0)
    (hf : ∀ (β : Nat → Nat → Nat) (e' : Env) (L' : LH), (∀ i k, K.w0.heap.size ≤ β i k) → e'.sub (e ++ OH D (List.range D.length) β) → L'.Perm (Nj D (List.range D.length) β ++ L) → Cr P N r K l.toArray (Qp .normal) (l.drop D.length) e' F L') :
    EO P N r K (.region id l.toArray true) Qp e F L := fun M a w ha hs => by
  simp only [QN, Bool.and_eq_true, List.all_eq_true, List.mem_range, List.size_toArray] at h0
  obtain ⟨g1, g2, g3, g4⟩ := h0
  refine wpIn_region_any hm ?_
  have a6 : ∀ j, (Array.replicate l.length false).getD j false = false := fun j => by simp [Array.getD]
  have h2 := PB (Qp := Qp) (by simpa using g1) (fun j hj => PD (g2 j hj)) (fun j hj a ha => by simpa using g3 j hj a ha) (fun j hj ab k hk => by
      have := g4 j hj
      have hn : Nat.blt j D.length = false := by rw [Bool.eq_false_iff]; intro hh; have : j < D.length := by simpa using hh
                                                 omega
      rw [hn, Bool.false_or, List.all_eq_true] at this
      simpa using this k (List.mem_range.2 hk)) (fun i hi => by
      have hg : D[i]? = some (Dx D i) := by unfold Dx; rw [List.getD_eq_getElem?_getD, List.getElem?_eq_getElem hi]; rfl
      have := PJ aa hg
      rwa [Nat.zero_add] at this) hf l.length (Array.replicate l.length false) (fun _ _ => K.w0.heap.size) e L ⟨by simp, fun j _ => a6 j, fun _ _ => Nat.le_refl _, fun j hj => absurd hj (by rw [a6]; decide), fun t v ht => ht, fun j _ hj => absurd hj (by rw [a6]; decide), by
        rw [List.filter_eq_nil_iff.2 fun j _ => by rw [a6]; decide]; exact .refl _⟩ (Nat.le_trans (List.length_filter_le ..) (by simp)) M a { w with drawn := w.drawn + 1 } ha hs.drew
  simpa using h2
end
end Go.SH
