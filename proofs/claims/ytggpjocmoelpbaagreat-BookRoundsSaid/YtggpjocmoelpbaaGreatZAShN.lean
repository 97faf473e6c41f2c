/- The calculus, part N: how values lie in cells; lists in place; loops; function values. -/
import Derived.Test.YtggpjocmoelpbaaGreatZAShM
namespace Go.SH
open Go.PL
def cI (k : IntKind) : Int → List Value := fun x => [.int k x]
def cB : Bool → List Value := fun b => [.bool b]
def cA {α : Type} (f : α → List Value) : List α → List Value := fun xs => xs.flatMap f
def cP {α β : Type} (f : α → List Value) (g : β → List Value) : α × β → List Value := fun p => f p.1 ++ g p.2
def arr {α : Type} (f : α → List Value) (xs : List α) : Array Value := (xs.flatMap f).toArray
def vA {α : Type} (f : α → List Value) : α → Value := fun x => .agg (f x).toArray
structure FOK {α : Type} (sz : Nat) (f : α → List Value) : Prop where
  len : ∀ x, (f x).length = sz
  one : ∀ x, OneCell (f x)
theorem cI_ok (k : IntKind) : FOK 1 (cI k) := ⟨fun _ => rfl, fun x v hv => by simp [cI] at hv; subst hv; rfl⟩
theorem cB_ok : FOK 1 cB := ⟨fun _ => rfl, fun x v hv => by simp [cB] at hv; subst hv; rfl⟩
def iE (k : IntKind) : Enc Int := fun _ vs x => vs = [.int k x]
def bE : Enc Bool := fun _ vs x => vs = [.bool x]
def prE {α β : Type} (R : Enc α) (S : Enc β) : Enc (α × β) := fun F vs x => ∃ u v, vs = u ++ v ∧ R F u x.1 ∧ S F v x.2
def slE {α : Type} (sz : Nat) (R : Enc α) : Enc (List α) := fun F vs x => ∃ a c, vs = [.slice a x.length c] ∧ RowR sz R F a c x
def arE {α : Type} (n : Nat) (f : α → List Value) : Enc (List α) := fun _ vs x => vs = x.flatMap f ∧ x.length = n
def agE {α : Type} (R : Enc α) : Enc α := fun F vs x => ∃ cs, vs = [.agg cs.toArray] ∧ R F cs x
theorem iE_ok (k : IntKind) : EncOK 1 (iE k) := ⟨fun _ h => h, fun h => by rw [h]; rfl, fun h v hv => by rw [h] at hv; simp at hv; subst hv; rfl⟩
theorem bE_ok : EncOK 1 bE := ⟨fun _ h => h, fun h => by rw [h]; rfl, fun h v hv => by rw [h] at hv; simp at hv; subst hv; rfl⟩
theorem prE_ok {α β : Type} {n m : Nat} {R : Enc α} {S : Enc β} (hR : EncOK n R) (hS : EncOK m S) : EncOK (n + m) (prE R S) :=
  ⟨fun hF ⟨u, v, h1, h2, h3⟩ => ⟨u, v, h1, hR.mono hF h2, hS.mono hF h3⟩, fun ⟨u, v, h1, h2, h3⟩ => by rw [h1, List.length_append, hR.len h2, hS.len h3],
   fun ⟨u, v, h1, h2, h3⟩ w hw => by rw [h1] at hw; exact (List.mem_append.1 hw).elim (hR.one h2 w) (hS.one h3 w)⟩
theorem slE_ok {α : Type} {sz : Nat} {R : Enc α} (hR : EncOK sz R) : EncOK 1 (slE sz R) :=
  ⟨fun hF ⟨a, c, h1, h2⟩ => ⟨a, c, h1, h2.mono hR hF⟩, fun ⟨a, c, h1, _⟩ => by rw [h1]; rfl, fun ⟨a, c, h1, _⟩ v hv => by rw [h1] at hv; simp at hv; subst hv; rfl⟩
theorem flat_len {α : Type} {sz : Nat} {f : α → List Value} (hf : FOK sz f) (xs : List α) : (xs.flatMap f).length = xs.length * sz := by
  induction xs with
  | nil => simp
  | cons x xs ih => simp [ih, hf.len, Nat.succ_mul, Nat.add_comm]
theorem flat_one {α : Type} {sz : Nat} {f : α → List Value} (hf : FOK sz f) (xs : List α) : OneCell (xs.flatMap f) := fun v hv => by
  obtain ⟨x, _, h⟩ := List.mem_flatMap.1 hv
  exact hf.one x v h
theorem arE_ok {α : Type} {sz n : Nat} {f : α → List Value} (hf : FOK sz f) : EncOK (n * sz) (arE n f) :=
  ⟨fun _ h => h, fun ⟨h1, h2⟩ => by rw [h1, flat_len hf, h2], fun ⟨h1, _⟩ => by rw [h1]; exact flat_one hf _⟩
theorem RowR.nil {α : Type} (sz : Nat) (R : Enc α) (F : FS) {a : Option Addr} : RowR sz R F a 0 ([] : List α) := ⟨[], .nil, by simpa using Row.nil F sz a 0 (Nat.zero_le _)⟩
theorem arr_sz {α : Type} {sz n : Nat} {f : α → List Value} (hf : FOK sz f) {xs : List α} (h : xs.length = n) : (arr f xs).size = n * sz := by simp [arr, flat_len hf, h]
theorem arr_one {α : Type} {sz : Nat} {f : α → List Value} (hf : FOK sz f) {xs : List α} : ∀ v ∈ (arr f xs).toList, v.oneCell' = true := by
  intro v hv; exact flat_one hf xs v (by simpa [arr] using hv)
theorem arr_lt {α : Type} {n : Nat} {xs : List α} {i : Int} (h : xs.length = n) (g : 0 ≤ i ∧ i < (xs.length : Int)) : 0 ≤ i ∧ i < (n : Int) := by rw [h] at g; exact g
theorem arr_off {n : Nat} {i : Int} (g : 0 ≤ i ∧ i < (n : Int)) : i.toNat * 1 < n * 1 := by omega
theorem arr_ltN {n : Nat} {i : Int} (g : 0 ≤ i ∧ i < (n : Int)) : i.toNat < n := by omega
theorem flat_at {α : Type} {sz : Nat} {f : α → List Value} (hf : FOK sz f) : ∀ {xs : List α} {i : Nat} {x : α}, xs[i]? = some x → ∀ j, j < sz → (xs.flatMap f)[i * sz + j]? = (f x)[j]?
  | [], i, x, h, _, _ => by simp at h
  | y :: ys, 0, x, h, j, hj => by
    simp at h; subst h
    simp only [List.flatMap_cons, Nat.zero_mul, Nat.zero_add]
    rw [List.getElem?_append_left (by rw [hf.len]; exact hj)]
  | y :: ys, i + 1, x, h, j, hj => by
    have h' : ys[i]? = some x := by simpa using h
    simp only [List.flatMap_cons]
    rw [List.getElem?_append_right (by rw [hf.len, Nat.succ_mul]; omega), ← flat_at hf h' j hj, hf.len]
    congr 1; rw [Nat.succ_mul]; omega
theorem el_at {α : Type} {sz n m o : Nat} {f : α → List Value} (hf : FOK sz f) {xs : List α} (hn : xs.length = n) {i : Int} {x : α} (h : xs[i.toNat]? = some x) {c : Array Value} (hc : ∀ j, j < m → c[o + j]? = (xs.flatMap f)[j]?) (hle : o + m ≤ c.size) (hl : (xs.flatMap f).length = m) :
    o + i.toNat * sz + sz ≤ c.size ∧ (f x).length = sz ∧ ∀ j, j < sz → c[o + i.toNat * sz + j]? = (f x)[j]? := by
  have hlt := (List.getElem?_eq_some_iff.1 h).1
  have hb : i.toNat * sz + sz ≤ m := by
    rw [← hl, flat_len hf]
    have := Nat.mul_le_mul_right sz (show i.toNat + 1 ≤ xs.length by omega)
    rwa [Nat.add_mul, Nat.one_mul] at this
  refine ⟨by omega, hf.len x, fun j hj => ?_⟩
  rw [Nat.add_assoc, hc _ (by omega)]; exact flat_at hf h j hj
def PtrR {α : Type} (T : TypeId) (R : Enc α) (F : FS) (v : Value) : Option α → Prop
  | none => v = .pointer none
  | some x => ∃ b c m, v = .pointer (some ⟨b, 0, none⟩) ∧ F b = some (.cells c.toArray T m) ∧ R F c x
theorem PtrR.mono {α : Type} {sz : Nat} {T : TypeId} {R : Enc α} {F F' : FS} {v : Value} {x : Option α} (h : PtrR T R F v x) (ok : EncOK sz R) (hF : FExt F F') : PtrR T R F' v x := by
  cases x with
  | none => exact h
  | some x => obtain ⟨b, c, m, h1, h2, h3⟩ := h; exact ⟨b, c, m, h1, hF _ _ h2, ok.mono hF h3⟩
inductive Zip : LH → LH → LH → LH → Prop
  | h {X Y R : LH} : Zip (X ++ R) X (Y ++ R) Y
  | n {Y R : LH} : Zip R [] (Y ++ R) Y
  | c {b : Nat × Obj} {L X L' Y : LH} : Zip L X L' Y → Zip (b :: L) X (b :: L') Y
  | s {A L X L' Y : LH} : Zip L X L' Y → Zip (A ++ L) X (A ++ L') Y
theorem Zip.perm {L X L' Y : LH} (h : Zip L X L' Y) : ∃ R, L.Perm (X ++ R) ∧ L'.Perm (Y ++ R) := by
  induction h with
  | @h X Y R => exact ⟨R, .refl _, .refl _⟩
  | @n Y R => exact ⟨R, .refl _, .refl _⟩
  | @c b L X L' Y _ ih =>
    obtain ⟨R, h1, h2⟩ := ih
    exact ⟨b :: R, frontC h1, frontC h2⟩
  | @s A L X L' Y _ ih =>
    obtain ⟨R, h1, h2⟩ := ih
    exact ⟨A ++ R, frontS h1, frontS h2⟩
theorem Zip.one {L X : LH} {C : LH → LH} (h : ∀ Y, Zip L X (C Y) Y) (Y0 : LH) : ∃ R, L.Perm (X ++ R) ∧ (C Y0).Perm (Y0 ++ R) := (h Y0).perm
section
variable {P : Program} {N : Nat} {r : Option Nat} {K : Ctx} {ops : Array Oper} {Q : Env → FS → LH → Prop} {rest : List Oper} {e : Env} {F : FS} {L : LH}
variable {ty : TypeId} {pos : String} {after : Array Edge} {d : Option Nat}
variable {α : Type} {R : Enc α} {a : Option Addr} {cap : Nat} {xs ys zs : List α} {Lb : LH} {C : LH → LH}
theorem sc {e e' : Env} {t : Nat} {v : Value} (h1 : e.get t = some v) (h : e.sub e') : e.sub ((t, v) :: e') := Env.sub_cons h1 h
theorem sn (e : Env) : e.sub [] := Env.sub_nil e
def okO (N : Nat) (d : Option Nat) (op : Op) : Bool := okDst N d && !Op.isDefer op
theorem okO_1 {op : Op} (h : okO N d op = true) : okDst N d = true := by simp only [okO, Bool.and_eq_true] at h; exact h.1
theorem okO_2 {op : Op} (h : okO N d op = true) : Op.isDefer op = false := by simp only [okO, Bool.and_eq_true, Bool.not_eq_true'] at h; exact h.2
theorem ov {op : Op} {v : Value} (h : OpV P N K e F L op ty v) (hd : okO N d op = true) (k : shO P N r K ops Q rest (e.put d v) F L) : shO P N r K ops Q (⟨d, op, ty, pos, after, none⟩ :: rest) e F L := shO_v h (okO_1 hd) (okO_2 hd) k
theorem qv {op : Op} {v : Value} {Q : Env → Prop} (h : OpV P N K e F L op ty v) (hd : okO N d op = true) (k : shQ P N K ops F L Q rest (e.put d v)) : shQ P N K ops F L Q (⟨d, op, ty, pos, after, none⟩ :: rest) e := shQ_v h (okO_1 hd) (okO_2 hd) k
theorem SlR.lenI {nb E sz n : Nat} (h : SlR nb E sz R F a n cap xs Lb) : (xs.length : Int) = (n : Int) := by rw [h.caps.1]
theorem SlR.idx {nb E sz n : Nat} (h : SlR nb E sz R F a n cap xs Lb) {i : Int} (g : 0 ≤ i ∧ i < (xs.length : Int)) : 0 ≤ i ∧ i < (n : Int) := by rw [h.caps.1]; exact g
theorem SlR.llt {nb E sz n : Nat} (h : SlR nb E sz R F a n cap xs Lb) : (xs.length : Int) ≤ 9223372036854775807 := by rw [← h.caps.1]; exact h.lt
theorem SlR.any {nb E sz n : Nat} (h : SlR nb E sz R F a n cap xs Lb) : SlR 0 E sz R F a n cap xs Lb := ⟨fun _ _ => Nat.zero_le _, h.2⟩
theorem o_appZ {T E : TypeId} {x y : Operand} {nb sz bytes c2 n m : Nat} {z : Value} {a2 : Option Addr} (hd : okDst N d = true) (hT : SlTy P T E sz z bytes) (hx : ev e x = some (.slice a n cap)) (hy : ev e y = some (.slice a2 m c2))
    (hnb : nb ≤ K.w0.heap.size) (hZ : ∀ X, Zip L Lb (C X) X) (hown : SlR nb E sz R F a n cap xs Lb) (hsrc : SrcR sz R F L a2 m ys) (hz : zs = xs ++ ys) (hn : zs.length ≤ 1048576) (hb : bytes ≤ 134217728)
    (k : ∀ a' n' cap' Lb', SlR nb E sz R F a' n' cap' zs Lb' → shO P N r K ops Q rest (e.put d (.slice a' n' cap')) F (C Lb')) :
    shO P N r K ops Q (⟨d, .call ⟨.builtin .append, #[x, y], #[T, T]⟩, ty, pos, after, none⟩ :: rest) e F L := by
  subst hz
  obtain ⟨Lr, h1, _⟩ := Zip.one hZ []
  have e1 := hown.caps.1
  have e2 := hsrc.1
  rw [List.length_append, ← e1, ← e2] at hn
  have hmul : (n + m) * bytes ≤ 1048576 * 134217728 := Nat.mul_le_mul hn hb
  refine o_appendR (nb := nb) hd hT hx hy hnb h1 hown hsrc (by simp only [maxLen]; omega) (by omega) fun a' cap' Lb' h => ?_
  obtain ⟨Lr', h2, h3⟩ := Zip.one hZ Lb'
  have h4 : Lr.Perm Lr' := (List.perm_append_left_iff Lb).1 (h1.symm.trans h2)
  exact shO_perm ((h4.append_left Lb').trans h3.symm) (k a' (n + m) cap' Lb' h)
theorem o_makeZ {T E : TypeId} {x : Operand} {sz bytes : Nat} {z : Value} {z0 : α} {n : Int} (hd : okDst N d = true) (hT : SlTy P T E sz z bytes) (hbb : bytes ≤ 134217728) (hR : EncOK sz R) (hz0 : ∀ F, R F z.cells.toList z0) (hx : ev e x = some (.int .i64 n)) (hn : 0 ≤ n ∧ n ≤ 1048576)
    (hz : zs = List.replicate n.toNat z0) (hZ : ∀ X, Zip L [] (C X) X)
    (k : ∀ a' n' Lb', SlR K.w0.heap.size E sz R F a' n' n' zs Lb' → shO P N r K ops Q rest (e.put d (.slice a' n' n')) F (C Lb')) :
    shO P N r K ops Q (⟨d, .makeSlice T x x, ty, pos, after, none⟩ :: rest) e F L := by
  have hmul : (bytes : Int) * n ≤ 134217728 * 1048576 := Int.mul_le_mul (by omega) hn.2 hn.1 (by decide)
  refine o_make hd hT hx hn.1 (by omega) (by omega) fun b hb => ?_
  have hh := SlR.made (nb := K.w0.heap.size) (E := E) (n := n.toNat) (F := F) hR hT.pos hz0 hb (by simp only [maxLen]; omega)
  obtain ⟨Lr, h1, h2⟩ := Zip.one hZ [(b, .cells (madeCells z.cells (n.toNat * sz)) E (0, 0))]
  refine shO_perm (((List.Perm.of_eq rfl).trans (h1.cons _)).trans h2.symm) ?_
  rw [← hz] at hh
  exact k _ _ _ hh
end
section
variable {P : Program} {N : Nat} {r : Option Nat} {K : Ctx} {Q : Post} {e : Env} {F : FS} {L : LH}
theorem inBlock_n {id : Nat} (h : Q .normal e F L) : inBlock id Q .normal e F L := h
theorem shW_lp {c : Code} (I : Nat → Env → FS → LH → Prop) (n0 : Nat) (h0 : meet (I n0) e F L)
    (round : ∀ n e F L, I n e F L → shW P N r K c (andThen (fun e F L => ∃ n', n' < n ∧ meet (I n') e F L) Q) e F L) : shW P N r K (.loop c) Q e F L := by
  obtain ⟨L2, L3, hp, hs, hm⟩ := h0
  refine shW_perm hp (shW_drop hs (shW_loop_perm I id n0 hm fun n e F L hI => shW_mono (round n e F L hI) ?_))
  rintro ex e F L q
  cases ex with
  | normal =>
    obtain ⟨n', h1, L2, L3, h2, h3, h4⟩ := q
    exact ⟨n', L2, L3, h2, h3, h4, h1⟩
  | _ => exact q
end
section
variable {P : Program} {N : Nat} {r : Option Nat} {K : Ctx} {ops : Array Oper} {Q : Env → FS → LH → Prop} {rest : List Oper} {e : Env} {F : FS} {L : LH}
variable {ty : TypeId} {pos : String} {after : Array Edge} {d : Option Nat}
def FnR (P : Program) (F : FS) (f : FuncId) (first cap : Array Value) {α β : Type} (A : Enc α) (B : β → Value) (p : α → Option β) : Prop :=
  (∀ args w, (callFunc f args).run P w = .ok (.enter f args) w) ∧ ∀ F', FExt F F' → ∀ vs x y, A F' vs x → p x = some y → SpecV P f (first ++ vs.toArray ++ cap) F' (B y)
theorem FnR.mono {P : Program} {F F' : FS} {f : FuncId} {first cap : Array Value} {α β : Type} {A : Enc α} {B : β → Value} {p : α → Option β} (h : FnR P F f first cap A B p) (hF : FExt F F') : FnR P F' f first cap A B p := ⟨h.1, fun F2 h2 => h.2 F2 (hF.trans h2)⟩
theorem lend {Lt Lr : LH} {M : List Nat} {w : World} (hs : St K M F (Lt ++ Lr) w) : ∃ F', FExt F F' ∧ (∀ p ∈ Lt, F' p.1 = some p.2) ∧ FLe F' w := by
  have hnd := hs.own.nodup
  have hcell := hs.own.cell
  have hfree := hs.own.free

  suffices h : ∀ (Lt : LH) (F : FS), (Lt.map Prod.fst).Nodup → (∀ p ∈ Lt, w.heap[p.1]? = some p.2) → (∀ p ∈ Lt, F p.1 = none) → FLe F w → ∃ F', FExt F F' ∧ (∀ p ∈ Lt, F' p.1 = some p.2) ∧ FLe F' w by
    refine h Lt F ?_ (fun p hp => hcell p (List.mem_append_left _ hp)) (fun p hp => hfree p (List.mem_append_left _ hp)) hs.fle
    rw [List.map_append] at hnd; exact (List.nodup_append.1 hnd).1
  intro Lt
  induction Lt with
  | nil => intro F _ _ _ hF; exact ⟨F, FExt.refl F, fun p hp => by simp at hp, hF⟩
  | cons q Lt ih =>
    intro F hn hc hf hF
    rw [List.map_cons, List.nodup_cons] at hn
    obtain ⟨F', h1, h2, h3⟩ := ih (fun k => if k = q.1 then some q.2 else F k) hn.2 (fun p hp => hc p (List.mem_cons_of_mem _ hp)) (fun p hp => by
      have hne : p.1 ≠ q.1 := fun he => hn.1 (List.mem_map.2 ⟨p, hp, he⟩)
      simp only [hne, if_false]; exact hf p (List.mem_cons_of_mem _ hp)) (fun b o hb => by
      by_cases he : b = q.1
      · subst he; simp at hb; subst hb; exact hc q (List.mem_cons_self ..)
      · simp [he] at hb; exact hF b o hb)
    refine ⟨F', fun b o hb => h1 b o ?_, fun p hp => ?_, h3⟩
    · have hne : b ≠ q.1 := by
        rintro rfl; rw [hf q (List.mem_cons_self ..)] at hb; cases hb
      simpa [hne] using hb
    · rcases List.mem_cons.1 hp with rfl | hp
      · exact h1 p.1 p.2 (by simp)
      · exact h2 p hp
theorem o_callT {x : Operand} {xs : Array Operand} {tys : Array TypeId} {f : FuncId} {first cap args : Array Value} {vs : List Value} {v : Value} {Lt Lr : LH} (hd : okDst N d = true) (hf : ∀ args w, (callFunc f args).run P w = .ok (.enter f args) w)
    (hx : ev e x = some (.func (.func f) first cap)) (hxs : xs.toList.mapM (ev e) = some vs) (hargs : first ++ vs.toArray ++ cap = args) (hL : L.Perm (Lt ++ Lr)) (hspec : ∀ F', FExt F F' → (∀ p ∈ Lt, F' p.1 = some p.2) → SpecV P f args F' v)
    (k : shO P N r K ops Q rest (e.put d v) F L) :
    shO P N r K ops Q (⟨d, .call ⟨.value x, xs, tys⟩, ty, pos, after, none⟩ :: rest) e F L := fun M a w ha hs => by
  obtain ⟨F', h1, h2, h3⟩ := lend (hs.perm hL)
  refine wpListIn_plain rfl fun Kn hK => ⟨fun _ _ => trivial, ?_⟩
  rw [Oper.semAt_eq _ _ _ (by intro c h; cases h), run_call ha hf hx hxs, hargs]
  refine ⟨by simp, callsIn_fence ?_⟩
  refine (hspec F' h1 h2 w h3 ⟨by simp, fun p hp => by simp at hp, fun p hp => by simp at hp⟩).mono ?_
  rintro ee w' ⟨v', F2, L', rfl, h4, h5, h6, h7, h8, rfl⟩
  exact hK _ _ (k _ _ _ (ha.putD hd _) (hs.after_callV h4))
theorem o_callG {x : Operand} {xs : Array Operand} {tys : Array TypeId} {f : FuncId} {first cap args : Array Value} {vs : List Value} {Lb Lr : LH} {R : FS → LH → Value → Prop} (hd : okDst N d = true) (hf : ∀ args w, (callFunc f args).run P w = .ok (.enter f args) w)
    (hx : ev e x = some (.func (.func f) first cap)) (hxs : xs.toList.mapM (ev e) = some vs) (hargs : first ++ vs.toArray ++ cap = args) (hL : L.Perm (Lb ++ Lr)) (hspec : Spec P f args F Lb R)
    (k : ∀ v F' L', FExt F F' → (L'.map Prod.fst).Nodup → (∀ p ∈ L', p.1 ∈ keys Lb ∨ K.w0.heap.size ≤ p.1) → R F' L' v → shO P N r K ops Q rest (e.put d v) F' (L' ++ Lr)) :
    shO P N r K ops Q (⟨d, .call ⟨.value x, xs, tys⟩, ty, pos, after, none⟩ :: rest) e F L := fun M a w ha hs0 => by
  have hs := hs0.perm hL
  refine wpListIn_plain rfl fun Kn hK => ⟨fun _ _ => trivial, ?_⟩
  rw [Oper.semAt_eq _ _ _ (by intro c h; cases h), run_call ha hf hx hxs, hargs]
  refine ⟨by simp, callsIn_fence ?_⟩
  refine (hspec w hs.fle ⟨(List.nodup_append.1 (by have := hs.own.nodup; rwa [List.map_append] at this)).1, fun p hp => hs.own.cell p (List.mem_append_left _ hp), fun p hp => hs.own.free p (List.mem_append_left _ hp)⟩).mono ?_
  rintro ee w' ⟨v, F', L', rfl, h1, h2, h3, h4, h5, h6⟩
  obtain ⟨h7, h8⟩ := hs.after_call h1 h2 h3 h4 h5
  exact hK _ _ (k v F' L' h8 h4.nodup (fun p hp => (h5 p hp).imp id (Nat.le_trans hs.keep.size)) h6 _ _ _ (ha.putD hd v) h7)
theorem newp {Lb Lb' R : LH} {n : Nat} (hk : keys Lb' = keys Lb) (hnd : ((Lb' ++ R).map Prod.fst).Nodup) (hn : ∀ p ∈ Lb' ++ R, p.1 ∈ keys Lb ∨ n ≤ p.1) : ∀ p ∈ R, n ≤ p.1 := fun p hp => by
  rcases hn p (List.mem_append_right _ hp) with h | h
  · rw [← hk] at h
    rw [List.map_append] at hnd
    exact absurd rfl ((List.nodup_append.1 hnd).2.2 _ h _ (List.mem_map.2 ⟨p, hp, rfl⟩))
  · exact h
theorem EnvB {e : Env} {t : Nat} {b b' : Bool} (h : e.get t = some (.bool b)) (hb : b = b') : e.get t = some (.bool b') := hb ▸ h
theorem evB {e : Env} {x : Operand} {b b' : Bool} (h : ev e x = some (.bool b)) (hb : b = b') : ev e x = some (.bool b') := hb ▸ h
end
end Go.SH
