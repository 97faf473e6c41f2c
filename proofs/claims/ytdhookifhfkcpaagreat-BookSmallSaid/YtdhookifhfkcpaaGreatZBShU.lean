/- The calculus, part U: arrays of arrays, structs that hold arrays, keys that hold arrays. -/
import Derived.Test.YtdhookifhfkcpaaGreatZBShT
import Derived.DeepKeys3
namespace Go.SH
open Go.PL
theorem GV {α : Type} {n : Nat} : ∀ {xs : List α}, xs.length = n + 1 → ∃ a t, xs = a :: t ∧ t.length = n
  | a :: t, h => ⟨a, t, rfl, by simpa using h⟩
theorem SM {α : Type} : ∀ {xs : List α}, xs.length = 0 → xs = []
  | [], _ => rfl
theorem OJ {α : Type} {n m o a b p : Nat} {f : α → List Value} (hf : QI 1 f) {xs : List α} (hn : xs.length = n) (hp : p = a * m + b) {x : α} (h : xs[p]? = some x) {c : Array Value} (hc : ∀ j, j < n → c[o + j]? = (xs.flatMap f)[j]?) (hle : o + n ≤ c.size) :
    o + a * m + b * 1 + 1 ≤ c.size ∧ (f x).length = 1 ∧ ∀ j, j < 1 → c[o + a * m + b * 1 + j]? = (f x)[j]? := by
  have aa := (List.getElem?_eq_some_iff.1 h).1
  refine ⟨by omega, hf.len x, fun j hj => ?_⟩
  have h1 := OU hf h j hj
  rw [Nat.mul_one] at h1
  rw [show o + a * m + b * 1 + j = o + (p + j) by omega, hc _ (by omega)]
  exact h1
def NN (l : List Value) (o n : Nat) (X : List Value) : Prop := (∀ j, j < n → l[o + j]? = X[j]?) ∧ o + n ≤ l.length
theorem FD {X : List Value} {n : Nat} (hX : X.length = n) : NN X 0 n X := ⟨fun j _ => by rw [Nat.zero_add], by omega⟩
theorem CD {X B : List Value} {n : Nat} (hX : X.length = n) : NN (X ++ B) 0 n X := by
  subst hX
  exact ⟨fun j hj => by rw [Nat.zero_add, List.getElem?_append_left hj], by simp⟩
theorem Dl {A l X : List Value} {k o n : Nat} (hA : A.length = k) (h : NN l o n X) : NN (A ++ l) (k + o) n X := by
  subst hA
  refine ⟨fun j hj => ?_, by have := h.2; simp; omega⟩
  rw [List.getElem?_append_right (by omega), show A.length + o + j - A.length = o + j by omega]
  exact h.1 j hj
theorem Kt {l X Y : List Value} {o a b : Nat} (hX : X.length = a) (h1 : NN l o a X) (h2 : NN l (o + a) b Y) : NN l o (a + b) (X ++ Y) := by
  subst hX
  refine ⟨fun j hj => ?_, by have := h2.2; omega⟩
  by_cases h : j < X.length
  · rw [h1.1 j h, List.getElem?_append_left h]
  · have := h2.1 (j - X.length) (by omega)
    rw [show o + X.length + (j - X.length) = o + j by omega] at this
    rw [this, List.getElem?_append_right (by omega)]
theorem Oe {l X : List Value} {o n : Nat} (h : NN l o n X) : ∀ j, j < n → (l.toArray)[o + j]? = X[j]? := fun j hj => by simpa using h.1 j hj
theorem Je {l X : List Value} {o n : Nat} (h : NN l o n X) : o + n ≤ (l.toArray).size := by simpa using h.2
theorem NO {l : List Value} {o : Nat} {v : Value} (h : NN l o 1 [v]) : (l.toArray)[o]? = some v := by
  have := h.1 0 (by omega)
  simpa using this
theorem Jg {l X : List Value} {o n : Nat} (hX : X.length = n) (h : NN l o n X) : (l.toArray).extract o (o + n) = X.toArray := Bi (Je h) hX (Oe h)
theorem P1 {c : Array Value} {l X : List Value} {o m off n : Nat} (hc : ∀ j, j < m → c[o + j]? = l[j]?) (hle : o + m ≤ c.size) (hl : l.length = m) (h : NN l off n X) : (∀ j, j < n → c[o + off + j]? = X[j]?) ∧ o + off + n ≤ c.size := by
  refine ⟨fun j hj => ?_, by have := h.2; omega⟩
  rw [Nat.add_assoc, hc _ (by have := h.2; omega)]
  exact h.1 j hj
theorem la {A B : List Value} {a b : Nat} (h1 : A.length = a) (h2 : B.length = b) : (A ++ B).length = a + b := by rw [List.length_append, h1, h2]
theorem Hl {α : Type} {f : α → List Value} (hf : QI 1 f) {xs : List α} {n : Nat} (hn : xs.length = n) : (xs.flatMap f).length = n := by rw [MM hf, hn, Nat.mul_one]
theorem lz {l : List Value} {n : Nat} (h : l.length = n) : (l.toArray).size = n := by simpa using h
theorem Lz {A B : List Value} (h1 : ∀ v ∈ A, v.oneCell' = true) (h2 : ∀ v ∈ B, v.oneCell' = true) : ∀ v ∈ A ++ B, v.oneCell' = true := fun v hv => (List.mem_append.1 hv).elim (h1 v) (h2 v)
section
variable {P : Program} {N : Nat} {r : Option Nat} {K : Ctx} {ops : Array Oper} {Q : Env → FS → LH → Prop} {rest : List Oper} {e : Env} {F : FS} {L : LH}
variable {ty : TypeId} {pos : String} {after : Array Edge} {d : Option Nat}
theorem Pw {β : Type} {T : TypeId} {x y : Operand} {b i a m q p : Nat} {f : β → List Value} {xs : List β} {u : β} {v : Value} {n : Nat} {E : TypeId} (hT : ∀ w, (sizeOf T).run P w = .ok 1 w) (hf : QI 1 f) (hx : ev e x = some (.pointer (some ⟨b, 0 + a * m + q * 1, none⟩))) (hy : ev e y = some v) (hv : f u = [v]) (hi : L[i]? = some (b, .cells (arr f xs) E (0, 0)))
    (hp : p = a * m + q) (g : p < n) (hn : xs.length = n) (k : Ct P N r K ops Q rest e F (L.set i (b, .cells (arr f (xs.set p u)) E (0, 0)))) : Ct P N r K ops Q (⟨none, .store T x y, ty, pos, after, none⟩ :: rest) e F L := by
  have h1 : v.oneCell' = true := hf.one u v (by rw [hv]; simp)
  have ab := Gk hf hn
  have hq : 0 + a * m + q * 1 = p := by omega
  rw [hq] at hx
  refine BL (i := i) hT hx hy h1 hi (by rw [ab]; omega) ?_
  have aa := (NS (n := n) (F := F) hf (vs := xs.flatMap f) ⟨rfl, hn⟩ (j := p) (y := u) (v := v) g hv).1
  have : (arr f xs).setIfInBounds p v = arr f (xs.set p u) := by
    apply Array.ext'
    simp only [arr, Array.toList_setIfInBounds]
    rw [Nat.mul_one] at aa
    exact aa
  rw [this]; exact k
theorem P5 {A E : TypeId} {x : Operand} {b n sz : Nat} (hA : P.underlying A = some (.array n E)) (hE : ∀ w, (sizeOf E).run P w = .ok sz w) (_hn : n ≠ 0) (hx : ev e x = some (.pointer (some ⟨b, 0, none⟩))) :
    Fb P N K e F L (.slice A x none none none) ty (.slice (some ⟨b, 0, none⟩) n n) := fun M a w d pos after g ha hs => by
  simp [execOp, Instr.sliceAt, Instr.sliceBounds, Instr.sureAddr, run_underlying hA, ha.ev hx, hE, Addr.add]
abbrev OS (P : Program) (T : TypeId) {κ : Type} [DecidableEq κ] (G : κ → Prop) (ek : κ → Value) : Prop := Od P T (fun k : {k : κ // G k} => ek k.1)
def Jq {κ δ : Type} (G : κ → Prop) (ek : κ → Value) (ed : δ → Value) (es : Array MapEntry) (m : List (κ × δ)) : Prop :=
  ∃ m' : List ({k : κ // G k} × δ), N0 (fun k => ek k.1) ed es m' ∧ m = m'.map fun p => (p.1.1, p.2)
theorem Jq.nil {κ δ : Type} {G : κ → Prop} {ek : κ → Value} {ed : δ → Value} : Jq G ek ed #[] [] := ⟨[], N0.nil, rfl⟩
variable {κ δ : Type} [DecidableEq κ] {G : κ → Prop} {ek : κ → Value} {ed : δ → Value}
theorem Pf (k : {k : κ // G k}) : ∀ m' : List ({k : κ // G k} × δ), LU (m'.map fun p => (p.1.1, p.2)) k.1 = LU m' k
  | [] => rfl
  | p :: m' => by
    have ih := Pf k m'
    rw [List.map_cons]
    unfold LU at ih ⊢
    simp only [List.find?_cons]
    by_cases h : p.1 = k
    · subst h; simp
    · have : ¬ p.1.1 = k.1 := fun e => h (Subtype.ext e)
      simp only [h, this, decide_false]
      exact ih
theorem Pm (k : {k : κ // G k}) (v : δ) : ∀ m' : List ({k : κ // G k} × δ), M4 (m'.map fun p => (p.1.1, p.2)) k.1 v = (M4 m' k v).map fun p => (p.1.1, p.2)
  | [] => rfl
  | p :: m' => by
    have ih := Pm k v m'
    have e1 : M4 ((p :: m').map fun p => (p.1.1, p.2)) k.1 v = if p.1.1 = k.1 then (k.1, v) :: m'.map (fun p => (p.1.1, p.2)) else (p.1.1, p.2) :: M4 (m'.map fun p => (p.1.1, p.2)) k.1 v := rfl
    have e2 : M4 (p :: m') k v = if p.1 = k then (k, v) :: m' else p :: M4 m' k v := rfl
    rw [e1, e2]
    by_cases h : p.1 = k
    · rw [if_pos h, if_pos (by rw [h])]; rfl
    · rw [if_neg h, if_neg (fun e => h (Subtype.ext e)), ih]; rfl
theorem QO {T TK TE : TypeId} {x y : Operand} {b : Nat} {es : Array MapEntry} {m : List (κ × δ)} {k : κ} {z : Value} {z0 : δ} (aa : z = ed z0) (hT : P.underlying T = some (.map TK TE)) (hk : OS P TK G ek) (hz : ∀ w, (zeroValue TE).run P w = .ok z w) (hx : ev e x = some (.map (some b))) (hy : ev e y = some (ek k))
    (hm : Og F L b es) (hR : Jq G ek ed es m) (hg : G k) : Fb P N K e F L (.lookup T x y false) ty (ed ((LU m k).getD z0)) := by
  obtain ⟨m', h1, rfl⟩ := hR
  have := Rc (ty := ty) (N := N) (K := K) aa hT hk hz hx (k := ⟨k, hg⟩) hy hm h1
  rwa [← Pf] at this
theorem OF {T TK TE : TypeId} {x y z : Operand} {b i cl : Nat} {es : Array MapEntry} {m : List (κ × δ)} {k : κ} {v : δ} (hT : P.underlying T = some (.map TK TE)) (hk : OS P TK G ek) (hx : ev e x = some (.map (some b))) (hy : ev e y = some (ek k)) (hz : ev e z = some (ed v)) (hi : L[i]? = some (b, .map es cl)) (hR : Jq G ek ed es m) (hg : G k)
    (kk : ∀ aa ab, Jq G ek ed aa (M4 m k v) → Ct P N r K ops Q rest e F (L.set i (b, .map aa ab))) :
    Ct P N r K ops Q (⟨none, .mapUpdate T x y z, ty, pos, after, none⟩ :: rest) e F L := by
  obtain ⟨m', h1, rfl⟩ := hR
  exact PN (k := ⟨k, hg⟩) (v := v) hT hk hx hy hz hi h1 fun aa ab h2 => kk aa ab ⟨_, h2, Pm ⟨k, hg⟩ v m'⟩
theorem OQ {T : TypeId} {lits : κ → List Lit} {m D : Nat} (hk : P.keyTypeAt m T = true) (hm : m ≤ 10000) (hf : ∀ k, G k → (ek k).formed P T = true) (hl : ∀ k, G k → P.keyLits D T (ek k).cells.toList = some (lits k)) (hi : ∀ x y, lits x = lits y → x = y) {x y : κ} (gx : G x) (gy : G y) (w : World) :
    (Op.equal T (ek x) (ek y)).run P w = .ok (decide (x = y)) w := by
  obtain ⟨r, hr, aa⟩ := run_equalIn_deep (10000 - m) m T hk w D D _ _ _ _ (hf x gx) (hf y gy) (hl x gx) (hl y gy)
  rw [show 10000 - m + m = 10000 by omega] at hr
  have : r = decide (x = y) := by
    rw [Bool.eq_iff_iff, decide_eq_true_iff, aa]
    exact ⟨hi x y, fun e => by rw [e]⟩
  rw [this] at hr
  exact hr
theorem Pz {T : TypeId} {a b : Array Value} {c : Prop} [Decidable c] {w : World} (h : (Op.equal T (.agg a) (.agg b)).run P w = .ok (decide c) w) : (binOp .eql T (.agg a) (.agg b)).run P w = .ok (.bool (decide c)) w := by
  simp only [binOp]; simp [h]
theorem QT {T : TypeId} {a b : Array Value} {c : Prop} [Decidable c] {w : World} (h : (Op.equal T (.agg a) (.agg b)).run P w = .ok (decide c) w) : (binOp .neq T (.agg a) (.agg b)).run P w = .ok (.bool (decide (¬ c))) w := by
  simp only [binOp]; simp [h]
theorem Ps {T : TypeId} {lits : κ → List Lit} {m D : Nat} (hw : (match P.underlying T with | some (.array _ _) | some (.struct _) => true | _ => false) = true) (hk : P.keyTypeAt m T = true) (hm : m ≤ 10000) (hf : ∀ k, G k → (ek k).formed P T = true) (hl : ∀ k, G k → P.keyLits D T (ek k).cells.toList = some (lits k)) (hi : ∀ x y, lits x = lits y → x = y) (hs : ∀ k, G k → Instr.sameBits 10000 (ek k) (ek k) = true) : OS P T G ek :=
  OT hw (fun x y w => by
    rw [OQ hk hm hf hl hi x.2 y.2 w]
    congr 1
    rw [decide_eq_decide]
    exact ⟨Subtype.ext, fun e => by rw [e]⟩) (fun b k w => by
    have := run_checkKey_deep b (10000 - m) m T hk w D _ _ (hf k.1 k.2) (hl k.1 k.2)
    rwa [show 10000 - m + m = 10000 by omega] at this) fun k => hs k.1 k.2
end
theorem At.R1 {α : Type} {f : α → List Value} {R : Hf α} {F : FS} {b n : Nat} {xs : List α} {E : TypeId} {m : Nat × Nat} (hR : Ck 1 R) (aa : ∀ F x, R F (f x) x) (hF : F b = some (.cells (arr f xs) E m)) (hn : xs.length = n) (hm : n ≤ maxLen) : At 1 R F (some ⟨b, 0, none⟩) n xs := by
  subst hn
  have key : ∀ l : List α, DT (R F) (l.map f) l := fun l => by
    induction l with
    | nil => exact .nil
    | cons x l ih => exact .cons (aa F x) ih
  exact At.Bd hR (vss := xs.map f) hF (key xs) (by simp [arr, List.flatMap]) hm
theorem Sk {x : Int} (h : Cn x) : (Lit.int .i64 x).wf = true := by
  unfold Cn at h
  simp [Lit.wf, IntKind.min, IntKind.max, IntKind.bits, IntKind.signed]
  omega
theorem JF {P : Program} {d : Nat} {T : TypeId} {q : IntKind} {n : Int} (hu : P.underlying T = some (.int q)) (hw : (Lit.int q n).wf = true) : P.keyLits (d + 1) T [.int q n] = some [.int q n] := by
  simp [Program.keyLits, hu, hw]
theorem Ir {P : Program} {d : Nat} {T : TypeId} {cs l : List Value} {ls : List Lit} (e : cs = l) (h : P.keyLits d T l = some ls) : P.keyLits d T cs = some ls := by rw [e]; exact h
theorem Ov {α β : Type} {f : α → Option β} : ∀ {l : List α} {ls : List β}, DT (fun a b => f a = some b) l ls → l.mapM f = some ls
  | _, _, .nil => rfl
  | _, _, .cons h t => by
    rw [List.mapM_cons, h, Ov t]; rfl
theorem J9 {P : Program} {d : Nat} {T : TypeId} {fs : Array Field} {cs : List Value} {r : List Lit} {ls : List (List Lit)} (hu : P.underlying T = some (.struct fs)) (hl : cs.length = P.cellsOf T) (hb : fs.all (·.name != "_") = true)
    (h : DT (fun (f : Field) l => P.keyLits d f.type ((cs.drop f.offset).take (P.cellsOf f.type)) = some l) fs.toList ls) (hr : ls.flatten = r) : P.keyLits (d + 1) T cs = some r := by
  unfold Program.keyLits
  simp only [hu]
  rw [if_pos ⟨hl, hb⟩, Ov h, ← hr]; rfl
theorem At.nn {α : Type} {sz : Nat} {R : Hf α} {F : FS} {a : Option Addr} {cap : Nat} {xs : List α} (h : At sz R F a cap xs) (g : xs ≠ []) : a = none ↔ xs = [] := by
  obtain ⟨_, _, h2⟩ := h
  refine ⟨fun ha => ?_, fun he => absurd he g⟩
  rcases h2.cells with h3 | ⟨b, o, c, E, m, h4, _⟩
  · exact List.eq_nil_of_length_eq_zero h3
  · rw [ha] at h4; cases h4
theorem PM {P : Program} {N : Nat} {K : Ctx} {e : Env} {F : FS} {L : LH} {ty : TypeId} {T E T' : TypeId} {x : Operand} {n c : Nat} {a : Option Addr} (hT : P.underlying T = some (.slice E)) (hx : ev e x = some (.slice a n c)) : Fb P N K e F L (.binOp .neq T x (.const (.slice none 0 0)) T') ty (.bool (!a.isNone)) := fun M act w d pos after g ha hs => by
  have h : (binOp .neq T (.slice a n c) (.slice none 0 0)).run P w = .ok (.bool (!a.isNone)) w := by
    simp only [binOp]
    simp [run_equal_slice_nil w T E a n c hT]
  have he : act.eval (.const (.slice none 0 0)) = .slice none 0 0 := rfl
  simp [execOp, eqGuard, ha.ev hx, he, h]
theorem Ow {α : Type} [DecidableEq α] {a : Option Addr} {xs : List α} (h : a = none ↔ xs = []) : (!a.isNone) = decide (xs ≠ []) := by
  rw [MO h]; simp
theorem K4 : ∀ {x y : List Bool}, x.map Lit.bool = y.map Lit.bool → x = y
  | [], [], _ => rfl
  | [], _ :: _, h => by cases h
  | _ :: _, [], h => by cases h
  | a :: x, b :: y, h => by
    rw [List.map_cons, List.map_cons] at h
    obtain ⟨h1, h2⟩ := List.cons.inj h
    rw [K4 h2, Lit.bool.inj h1]
end Go.SH
