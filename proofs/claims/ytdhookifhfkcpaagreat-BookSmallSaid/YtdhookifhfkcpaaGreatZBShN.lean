/- The calculus, part N: how values lie in cells; lists in place; loops; function values. -/
import Derived.Test.YtdhookifhfkcpaaGreatZBShM
namespace Go.SH
open Go.PL
def cI (k : IntKind) : Int → List Value := fun x => [.int k x]
def cB : Bool → List Value := fun b => [.bool b]
def cA {α : Type} (f : α → List Value) : List α → List Value := fun xs => xs.flatMap f
def cP {α β : Type} (f : α → List Value) (g : β → List Value) : α × β → List Value := fun p => f p.1 ++ g p.2
def arr {α : Type} (f : α → List Value) (xs : List α) : Array Value := (xs.flatMap f).toArray
def vA {α : Type} (f : α → List Value) : α → Value := fun x => .agg (f x).toArray
structure QI {α : Type} (sz : Nat) (f : α → List Value) : Prop where
  len : ∀ x, (f x).length = sz
  one : ∀ x, OneCell (f x)
theorem DI (k : IntKind) : QI 1 (cI k) := ⟨fun _ => rfl, fun x v hv => by simp [cI] at hv; subst hv; rfl⟩
theorem A8 : QI 1 cB := ⟨fun _ => rfl, fun x v hv => by simp [cB] at hv; subst hv; rfl⟩
def iE (k : IntKind) : Hf Int := fun _ vs x => vs = [.int k x]
def bE : Hf Bool := fun _ vs x => vs = [.bool x]
def Br {α β : Type} (R : Hf α) (S : Hf β) : Hf (α × β) := fun F vs x => ∃ u v, vs = u ++ v ∧ R F u x.1 ∧ S F v x.2
def CM {α : Type} (sz : Nat) (R : Hf α) : Hf (List α) := fun F vs x => ∃ a c, vs = [.slice a x.length c] ∧ At sz R F a c x
def J4 {α : Type} (n : Nat) (f : α → List Value) : Hf (List α) := fun _ vs x => vs = x.flatMap f ∧ x.length = n
def PO {α : Type} (R : Hf α) : Hf α := fun F vs x => ∃ cs, vs = [.agg cs.toArray] ∧ R F cs x
theorem Ke (k : IntKind) : Ck 1 (iE k) := ⟨fun _ h => h, fun h => by rw [h]; rfl, fun h v hv => by rw [h] at hv; simp at hv; subst hv; rfl⟩
theorem Be : Ck 1 bE := ⟨fun _ h => h, fun h => by rw [h]; rfl, fun h v hv => by rw [h] at hv; simp at hv; subst hv; rfl⟩
theorem Ai {α β : Type} {n m : Nat} {R : Hf α} {S : Hf β} (hR : Ck n R) (hS : Ck m S) : Ck (n + m) (Br R S) :=
  ⟨fun hF ⟨u, v, h1, h2, h3⟩ => ⟨u, v, h1, hR.mono hF h2, hS.mono hF h3⟩, fun ⟨u, v, h1, h2, h3⟩ => by rw [h1, List.length_append, hR.len h2, hS.len h3],
   fun ⟨u, v, h1, h2, h3⟩ w hw => by rw [h1] at hw; exact (List.mem_append.1 hw).elim (hR.one h2 w) (hS.one h3 w)⟩
theorem Ay {α : Type} {sz : Nat} {R : Hf α} (hR : Ck sz R) : Ck 1 (CM sz R) :=
  ⟨fun hF ⟨a, c, h1, h2⟩ => ⟨a, c, h1, h2.mono hR hF⟩, fun ⟨a, c, h1, _⟩ => by rw [h1]; rfl, fun ⟨a, c, h1, _⟩ v hv => by rw [h1] at hv; simp at hv; subst hv; rfl⟩
theorem MM {α : Type} {sz : Nat} {f : α → List Value} (hf : QI sz f) (xs : List α) : (xs.flatMap f).length = xs.length * sz := by
  induction xs with
  | nil => simp
  | cons x xs ih => simp [ih, hf.len, Nat.succ_mul, Nat.add_comm]
theorem Jc {α : Type} {sz : Nat} {f : α → List Value} (hf : QI sz f) (xs : List α) : OneCell (xs.flatMap f) := fun v hv => by
  obtain ⟨x, _, h⟩ := List.mem_flatMap.1 hv
  exact hf.one x v h
theorem BF {α : Type} {sz n : Nat} {f : α → List Value} (hf : QI sz f) : Ck (n * sz) (J4 n f) :=
  ⟨fun _ h => h, fun ⟨h1, h2⟩ => by rw [h1, MM hf, h2], fun ⟨h1, _⟩ => by rw [h1]; exact Jc hf _⟩
theorem At.nil {α : Type} (sz : Nat) (R : Hf α) (F : FS) {a : Option Addr} : At sz R F a 0 ([] : List α) := ⟨[], .nil, by simpa using Row.nil F sz a 0 (Nat.zero_le _)⟩
theorem Gk {α : Type} {sz n : Nat} {f : α → List Value} (hf : QI sz f) {xs : List α} (h : xs.length = n) : (arr f xs).size = n * sz := by simp [arr, MM hf, h]
theorem LM {α : Type} {sz : Nat} {f : α → List Value} (hf : QI sz f) {xs : List α} : ∀ v ∈ (arr f xs).toList, v.oneCell' = true := by
  intro v hv; exact Jc hf xs v (by simpa [arr] using hv)
theorem IT {α : Type} {n : Nat} {xs : List α} {i : Int} (h : xs.length = n) (g : 0 ≤ i ∧ i < (xs.length : Int)) : 0 ≤ i ∧ i < (n : Int) := by rw [h] at g; exact g
theorem Pa {n : Nat} {i : Int} (g : 0 ≤ i ∧ i < (n : Int)) : i.toNat * 1 < n * 1 := by omega
theorem O1 {n : Nat} {i : Int} (g : 0 ≤ i ∧ i < (n : Int)) : i.toNat < n := by omega
theorem OU {α : Type} {sz : Nat} {f : α → List Value} (hf : QI sz f) : ∀ {xs : List α} {i : Nat} {x : α}, xs[i]? = some x → ∀ j, j < sz → (xs.flatMap f)[i * sz + j]? = (f x)[j]?
  | [], i, x, h, _, _ => by simp at h
  | y :: ys, 0, x, h, j, hj => by
    simp at h; subst h
    simp only [List.flatMap_cons, Nat.zero_mul, Nat.zero_add]
    rw [List.getElem?_append_left (by rw [hf.len]; exact hj)]
  | y :: ys, i + 1, x, h, j, hj => by
    have h' : ys[i]? = some x := by simpa using h
    simp only [List.flatMap_cons]
    rw [List.getElem?_append_right (by rw [hf.len, Nat.succ_mul]; omega), ← OU hf h' j hj, hf.len]
    congr 1; rw [Nat.succ_mul]; omega
theorem Qr {α : Type} {sz n m o : Nat} {f : α → List Value} (hf : QI sz f) {xs : List α} (hn : xs.length = n) {i : Int} {x : α} (h : xs[i.toNat]? = some x) {c : Array Value} (hc : ∀ j, j < m → c[o + j]? = (xs.flatMap f)[j]?) (hle : o + m ≤ c.size) (hl : (xs.flatMap f).length = m) :
    o + i.toNat * sz + sz ≤ c.size ∧ (f x).length = sz ∧ ∀ j, j < sz → c[o + i.toNat * sz + j]? = (f x)[j]? := by
  have aa := (List.getElem?_eq_some_iff.1 h).1
  have hb : i.toNat * sz + sz ≤ m := by
    rw [← hl, MM hf]
    have := Nat.mul_le_mul_right sz (show i.toNat + 1 ≤ xs.length by omega)
    rwa [Nat.add_mul, Nat.one_mul] at this
  refine ⟨by omega, hf.len x, fun j hj => ?_⟩
  rw [Nat.add_assoc, hc _ (by omega)]; exact OU hf h j hj
def Om {α : Type} (T : TypeId) (R : Hf α) (F : FS) (v : Value) : Option α → Prop
  | none => v = .pointer none
  | some x => ∃ b c m, v = .pointer (some ⟨b, 0, none⟩) ∧ F b = some (.cells c.toArray T m) ∧ R F c x
theorem Om.mono {α : Type} {sz : Nat} {T : TypeId} {R : Hf α} {F F' : FS} {v : Value} {x : Option α} (h : Om T R F v x) (ok : Ck sz R) (hF : AQ F F') : Om T R F' v x := by
  cases x with
  | none => exact h
  | some x => obtain ⟨b, c, m, h1, h2, h3⟩ := h; exact ⟨b, c, m, h1, hF _ _ h2, ok.mono hF h3⟩
inductive Zip : LH → LH → LH → LH → Prop
  | h {X Y R : LH} : Zip (X ++ R) X (Y ++ R) Y
  | n {Y R : LH} : Zip R [] (Y ++ R) Y
  | c {b : Nat × Obj} {L X L' Y : LH} : Zip L X L' Y → Zip (b :: L) X (b :: L') Y
  | s {A L X L' Y : LH} : Zip L X L' Y → Zip (A ++ L) X (A ++ L') Y
theorem Zip.perm {L X L' Y : LH} (h : Zip L X L' Y) : ∃ R, L.Perm (X ++ R) ∧ L'.Perm (Y ++ R) := by
  induction h with
  | @h X Y R => exact ⟨R, .refl _, .refl _⟩
  | @n Y R => exact ⟨R, .refl _, .refl _⟩
  | @c b L X L' Y _ ih =>
    obtain ⟨R, h1, h2⟩ := ih
    exact ⟨b :: R, P7 h1, P7 h2⟩
  | @s A L X L' Y _ ih =>
    obtain ⟨R, h1, h2⟩ := ih
    exact ⟨A ++ R, Qe h1, Qe h2⟩
theorem Zip.one {L X : LH} {C : LH → LH} (h : ∀ Y, Zip L X (C Y) Y) (Y0 : LH) : ∃ R, L.Perm (X ++ R) ∧ (C Y0).Perm (Y0 ++ R) := (h Y0).perm
section
variable {P : Program} {N : Nat} {r : Option Nat} {K : Ctx} {ops : Array Oper} {Q : Env → FS → LH → Prop} {rest : List Oper} {e : Env} {F : FS} {L : LH}
variable {ty : TypeId} {pos : String} {after : Array Edge} {d : Option Nat}
variable {α : Type} {R : Hf α} {a : Option Addr} {cap : Nat} {xs ys zs : List α} {Lb : LH} {C : LH → LH}
theorem sc {e e' : Env} {t : Nat} {v : Value} (h1 : e.get t = some v) (h : e.sub e') : e.sub ((t, v) :: e') := Env.Rh h1 h
theorem sn (e : Env) : e.sub [] := Env.RF e
def Pd (N : Nat) (d : Option Nat) (op : Op) : Bool := CW N d && !Op.E0 op
theorem RQ {op : Op} (h : Pd N d op = true) : CW N d = true := by simp only [Pd, Bool.and_eq_true] at h; exact h.1
theorem RN {op : Op} (h : Pd N d op = true) : Op.E0 op = false := by simp only [Pd, Bool.and_eq_true, Bool.not_eq_true'] at h; exact h.2
theorem ov {op : Op} {v : Value} (h : Fb P N K e F L op ty v) (hd : Pd N d op = true) (k : Ct P N r K ops Q rest (e.put d v) F L) : Ct P N r K ops Q (⟨d, op, ty, pos, after, none⟩ :: rest) e F L := SC h (RQ hd) (RN hd) k
theorem qv {op : Op} {v : Value} {Q : Env → Prop} (h : Fb P N K e F L op ty v) (hd : Pd N d op = true) (k : Mi P N K ops F L Q rest (e.put d v)) : Mi P N K ops F L Q (⟨d, op, ty, pos, after, none⟩ :: rest) e := SR h (RQ hd) (RN hd) k
theorem AI.FE {nb E sz n : Nat} (h : AI nb E sz R F a n cap xs Lb) : (xs.length : Int) = (n : Int) := by rw [h.A1.1]
theorem AI.idx {nb E sz n : Nat} (h : AI nb E sz R F a n cap xs Lb) {i : Int} (g : 0 ≤ i ∧ i < (xs.length : Int)) : 0 ≤ i ∧ i < (n : Int) := by rw [h.A1.1]; exact g
theorem AI.Po {nb E sz n : Nat} (h : AI nb E sz R F a n cap xs Lb) : (xs.length : Int) ≤ 9223372036854775807 := by rw [← h.A1.1]; exact h.lt
theorem AI.any {nb E sz n : Nat} (h : AI nb E sz R F a n cap xs Lb) : AI 0 E sz R F a n cap xs Lb := ⟨fun _ _ => Nat.zero_le _, h.2⟩
theorem CJ {T E : TypeId} {x y : Operand} {nb sz bytes c2 n m : Nat} {z : Value} {a2 : Option Addr} (hd : CW N d = true) (hT : EN P T E sz z bytes) (hx : ev e x = some (.slice a n cap)) (hy : ev e y = some (.slice a2 m c2))
    (ae : nb ≤ K.w0.heap.size) (hZ : ∀ X, Zip L Lb (C X) X) (ab : AI nb E sz R F a n cap xs Lb) (ad : FL sz R F L a2 m ys) (hz : zs = xs ++ ys) (hn : zs.length ≤ 1048576) (hb : bytes ≤ 134217728)
    (k : ∀ a' n' aa Lb', AI nb E sz R F a' n' aa zs Lb' → Ct P N r K ops Q rest (e.put d (.slice a' n' aa)) F (C Lb')) :
    Ct P N r K ops Q (⟨d, .call ⟨.builtin .append, #[x, y], #[T, T]⟩, ty, pos, after, none⟩ :: rest) e F L := by
  subst hz
  obtain ⟨Lr, h1, _⟩ := Zip.one hZ []
  have e1 := ab.A1.1
  have e2 := ad.1
  rw [List.length_append, ← e1, ← e2] at hn
  have hmul : (n + m) * bytes ≤ 1048576 * 134217728 := Nat.mul_le_mul hn hb
  refine QB (nb := nb) hd hT hx hy ae h1 ab ad (by simp only [maxLen]; omega) (by omega) fun a' aa Lb' h => ?_
  obtain ⟨ah, h2, h3⟩ := Zip.one hZ Lb'
  have h4 : Lr.Perm ah := (List.perm_append_left_iff Lb).1 (h1.symm.trans h2)
  exact Bc ((h4.append_left Lb').trans h3.symm) (k a' (n + m) aa Lb' h)
theorem Ft {T E : TypeId} {x : Operand} {sz bytes : Nat} {z : Value} {z0 : α} {n : Int} (hd : CW N d = true) (hT : EN P T E sz z bytes) (ab : bytes ≤ 134217728) (hR : Ck sz R) (aa : ∀ F, R F z.cells.toList z0) (hx : ev e x = some (.int .i64 n)) (hn : 0 ≤ n ∧ n ≤ 1048576)
    (hz : zs = List.replicate n.toNat z0) (hZ : ∀ X, Zip L [] (C X) X)
    (k : ∀ a' n' Lb', AI K.w0.heap.size E sz R F a' n' n' zs Lb' → Ct P N r K ops Q rest (e.put d (.slice a' n' n')) F (C Lb')) :
    Ct P N r K ops Q (⟨d, .makeSlice T x x, ty, pos, after, none⟩ :: rest) e F L := by
  have hmul : (bytes : Int) * n ≤ 134217728 * 1048576 := Int.mul_le_mul (by omega) hn.2 hn.1 (by decide)
  refine R6 hd hT hx hn.1 (by omega) (by omega) fun b hb => ?_
  have hh := AI.made (nb := K.w0.heap.size) (E := E) (n := n.toNat) (F := F) hR hT.pos aa hb (by simp only [maxLen]; omega)
  obtain ⟨Lr, h1, h2⟩ := Zip.one hZ [(b, .cells (madeCells z.cells (n.toNat * sz)) E (0, 0))]
  refine Bc (((List.Perm.of_eq rfl).trans (h1.cons _)).trans h2.symm) ?_
  rw [← hz] at hh
  exact k _ _ _ hh
end
section
variable {P : Program} {N : Nat} {r : Option Nat} {K : Ctx} {Q : GI} {e : Env} {F : FS} {L : LH}
theorem AD {id : Nat} (h : Q .normal e F L) : inBlock id Q .normal e F L := h
theorem A6 {c : Code} (I : Nat → Env → FS → LH → Prop) (n0 : Nat) (h0 : meet (I n0) e F L)
    (round : ∀ n e F L, I n e F L → Gg P N r K c (andThen (fun e F L => ∃ n', n' < n ∧ meet (I n') e F L) Q) e F L) : Gg P N r K (.loop c) Q e F L := by
  obtain ⟨L2, L3, hp, hs, hm⟩ := h0
  refine PJ hp (Pl hs (Ok I id n0 hm fun n e F L hI => Pg (round n e F L hI) ?_))
  rintro ex e F L q
  cases ex with
  | normal =>
    obtain ⟨n', h1, L2, L3, h2, h3, h4⟩ := q
    exact ⟨n', L2, L3, h2, h3, h4, h1⟩
  | _ => exact q
end
section
variable {P : Program} {N : Nat} {r : Option Nat} {K : Ctx} {ops : Array Oper} {Q : Env → FS → LH → Prop} {rest : List Oper} {e : Env} {F : FS} {L : LH}
variable {ty : TypeId} {pos : String} {after : Array Edge} {d : Option Nat}
def J2 (P : Program) (F : FS) (f : FuncId) (first cap : Array Value) {α β : Type} (A : Hf α) (B : β → Value) (p : α → Option β) : Prop :=
  (∀ args w, (callFunc f args).run P w = .ok (.enter f args) w) ∧ ∀ F', AQ F F' → ∀ vs x y, A F' vs x → p x = some y → Bp P f (first ++ vs.toArray ++ cap) F' (B y)
theorem J2.mono {P : Program} {F F' : FS} {f : FuncId} {first cap : Array Value} {α β : Type} {A : Hf α} {B : β → Value} {p : α → Option β} (h : J2 P F f first cap A B p) (hF : AQ F F') : J2 P F' f first cap A B p := ⟨h.1, fun F2 h2 => h.2 F2 (hF.trans h2)⟩
theorem SF {Lt Lr : LH} {M : List Nat} {w : World} (hs : St K M F (Lt ++ Lr) w) : ∃ F', AQ F F' ∧ (∀ p ∈ Lt, F' p.1 = some p.2) ∧ PQ F' w := by
  have ae := hs.own.nodup
  have aa := hs.own.cell
  have ab := hs.own.free

  suffices h : ∀ (Lt : LH) (F : FS), (Lt.map Prod.fst).Nodup → (∀ p ∈ Lt, w.heap[p.1]? = some p.2) → (∀ p ∈ Lt, F p.1 = none) → PQ F w → ∃ F', AQ F F' ∧ (∀ p ∈ Lt, F' p.1 = some p.2) ∧ PQ F' w by
    refine h Lt F ?_ (fun p hp => aa p (List.mem_append_left _ hp)) (fun p hp => ab p (List.mem_append_left _ hp)) hs.MA
    rw [List.map_append] at ae; exact (List.nodup_append.1 ae).1
  intro Lt
  induction Lt with
  | nil => intro F _ _ _ hF; exact ⟨F, AQ.refl F, fun p hp => by simp at hp, hF⟩
  | cons q Lt ih =>
    intro F hn hc hf hF
    rw [List.map_cons, List.nodup_cons] at hn
    obtain ⟨F', h1, h2, h3⟩ := ih (fun k => if k = q.1 then some q.2 else F k) hn.2 (fun p hp => hc p (List.mem_cons_of_mem _ hp)) (fun p hp => by
      have ad : p.1 ≠ q.1 := fun he => hn.1 (List.mem_map.2 ⟨p, hp, he⟩)
      simp only [ad, if_false]; exact hf p (List.mem_cons_of_mem _ hp)) (fun b o hb => by
      by_cases he : b = q.1
      · subst he; simp at hb; subst hb; exact hc q (List.mem_cons_self ..)
      · simp [he] at hb; exact hF b o hb)
    refine ⟨F', fun b o hb => h1 b o ?_, fun p hp => ?_, h3⟩
    · have ad : b ≠ q.1 := by
        rintro rfl; rw [hf q (List.mem_cons_self ..)] at hb; cases hb
      simpa [ad] using hb
    · rcases List.mem_cons.1 hp with rfl | hp
      · exact h1 p.1 p.2 (by simp)
      · exact h2 p hp
theorem Bh {x : Operand} {xs : Array Operand} {MZ : Array TypeId} {f : FuncId} {first cap args : Array Value} {vs : List Value} {v : Value} {Lt Lr : LH} (hd : CW N d = true) (hf : ∀ args w, (callFunc f args).run P w = .ok (.enter f args) w)
    (hx : ev e x = some (.func (.func f) first cap)) (ad : xs.toList.mapM (ev e) = some vs) (aa : first ++ vs.toArray ++ cap = args) (hL : L.Perm (Lt ++ Lr)) (ab : ∀ F', AQ F F' → (∀ p ∈ Lt, F' p.1 = some p.2) → Bp P f args F' v)
    (k : Ct P N r K ops Q rest (e.put d v) F L) :
    Ct P N r K ops Q (⟨d, .call ⟨.value x, xs, MZ⟩, ty, pos, after, none⟩ :: rest) e F L := fun M a w ha hs => by
  obtain ⟨F', h1, h2, h3⟩ := SF (hs.perm hL)
  refine wpListIn_plain rfl fun Kn hK => ⟨fun _ _ => trivial, ?_⟩
  rw [Oper.semAt_eq _ _ _ (by intro c h; cases h), J0 ha hf hx ad, aa]
  refine ⟨by simp, EB ?_⟩
  refine (ab F' h1 h2 w h3 ⟨by simp, fun p hp => by simp at hp, fun p hp => by simp at hp⟩).mono ?_
  rintro ee w' ⟨v', F2, L', rfl, h4, h5, h6, h7, h8, rfl⟩
  exact hK _ _ (k _ _ _ (ha.MR hd _) (hs.Ig h4))
theorem Ox {Q : Env → Prop} {x : Operand} {xs : Array Operand} {MZ : Array TypeId} {f : FuncId} {first cap args : Array Value} {vs : List Value} {v : Value} {Lt Lr : LH} (hd : CW N d = true) (hf : ∀ args w, (callFunc f args).run P w = .ok (.enter f args) w)
    (hx : ev e x = some (.func (.func f) first cap)) (ad : xs.toList.mapM (ev e) = some vs) (aa : first ++ vs.toArray ++ cap = args) (hL : L.Perm (Lt ++ Lr)) (ab : ∀ F', AQ F F' → (∀ p ∈ Lt, F' p.1 = some p.2) → Bp P f args F' v)
    (k : Mi P N K ops F L Q rest (e.put d v)) : Mi P N K ops F L Q (⟨d, .call ⟨.value x, xs, MZ⟩, ty, pos, after, none⟩ :: rest) e := fun M a ha => by
  unfold wpQuiet
  rw [if_pos (by simp [Region.wanted])]
  refine ⟨v, fun w hs => ?_, k _ _ (ha.MR hd v)⟩
  unfold Oper.quietAt
  rw [J0 ha hf hx ad, aa]
  obtain ⟨F', h1, h2, h3⟩ := SF (hs.perm hL)
  refine ⟨rfl, ?_⟩
  refine (ab F' h1 h2 w h3 ⟨by simp, fun p hp => by simp at hp, fun p hp => by simp at hp⟩).mono ?_
  rintro ee w' ⟨v', F2, L', rfl, h4, h5, h6, h7, h8, rfl⟩
  exact ⟨rfl, hs.Ig h4⟩
theorem MW {x : Operand} {xs : Array Operand} {MZ : Array TypeId} {f : FuncId} {first cap args : Array Value} {vs : List Value} {Lb Lr : LH} {R : FS → LH → Value → Prop} (hd : CW N d = true) (hf : ∀ args w, (callFunc f args).run P w = .ok (.enter f args) w)
    (hx : ev e x = some (.func (.func f) first cap)) (ad : xs.toList.mapM (ev e) = some vs) (aa : first ++ vs.toArray ++ cap = args) (hL : L.Perm (Lb ++ Lr)) (ab : Spec P f args F Lb R)
    (k : ∀ v F' L', AQ F F' → (L'.map Prod.fst).Nodup → (∀ p ∈ L', p.1 ∈ keys Lb ∨ K.w0.heap.size ≤ p.1) → R F' L' v → Ct P N r K ops Q rest (e.put d v) F' (L' ++ Lr)) :
    Ct P N r K ops Q (⟨d, .call ⟨.value x, xs, MZ⟩, ty, pos, after, none⟩ :: rest) e F L := fun M a w ha ae => by
  have hs := ae.perm hL
  refine wpListIn_plain rfl fun Kn hK => ⟨fun _ _ => trivial, ?_⟩
  rw [Oper.semAt_eq _ _ _ (by intro c h; cases h), J0 ha hf hx ad, aa]
  refine ⟨by simp, EB ?_⟩
  refine (ab w hs.MA ⟨(List.nodup_append.1 (by have := hs.own.nodup; rwa [List.map_append] at this)).1, fun p hp => hs.own.cell p (List.mem_append_left _ hp), fun p hp => hs.own.free p (List.mem_append_left _ hp)⟩).mono ?_
  rintro ee w' ⟨v, F', L', rfl, h1, h2, h3, h4, h5, h6⟩
  obtain ⟨h7, h8⟩ := hs.HY h1 h2 h3 h4 h5
  exact hK _ _ (k v F' L' h8 h4.nodup (fun p hp => (h5 p hp).imp id (Nat.le_trans hs.Fw.size)) h6 _ _ _ (ha.MR hd v) h7)
theorem ND {Lb Lb' R : LH} {n : Nat} (hk : keys Lb' = keys Lb) (aa : ((Lb' ++ R).map Prod.fst).Nodup) (hn : ∀ p ∈ Lb' ++ R, p.1 ∈ keys Lb ∨ n ≤ p.1) : ∀ p ∈ R, n ≤ p.1 := fun p hp => by
  rcases hn p (List.mem_append_right _ hp) with h | h
  · rw [← hk] at h
    rw [List.map_append] at aa
    exact absurd rfl ((List.nodup_append.1 aa).2.2 _ h _ (List.mem_map.2 ⟨p, hp, rfl⟩))
  · exact h
theorem Cy {e : Env} {t : Nat} {b b' : Bool} (h : e.get t = some (.bool b)) (hb : b = b') : e.get t = some (.bool b') := hb ▸ h
theorem FK {e : Env} {x : Operand} {b b' : Bool} (h : ev e x = some (.bool b)) (hb : b = b') : ev e x = some (.bool b') := hb ▸ h
end
end Go.SH
