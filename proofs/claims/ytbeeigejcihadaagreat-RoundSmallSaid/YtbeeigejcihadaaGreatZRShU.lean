/- The calculus, part U: arrays of arrays, structs that hold arrays, keys that hold arrays. -/
import Derived.Test.YtbeeigejcihadaaGreatZRShT
import Derived.DeepKeys3
namespace Go.SH
open Go.PL
theorem GA {α : Type} {n : Nat} : ∀ {xs : List α}, xs.length = n + 1 → ∃ a t, xs = a :: t ∧ t.length = n
  | a :: t, h => ⟨a, t, rfl, by simpa using h⟩
theorem Sh {α : Type} : ∀ {xs : List α}, xs.length = 0 → xs = []
  | [], _ => rfl
theorem H6 {α : Type} {n m o a b p : Nat} {f : α → List Value} (hf : Qi 1 f) {xs : List α} (hn : xs.length = n) (hp : p = a * m + b) {x : α} (h : xs[p]? = some x) {c : Array Value} (hc : ∀ j, j < n → c[o + j]? = (xs.flatMap f)[j]?) (hle : o + n ≤ c.size) :
    o + a * m + b * 1 + 1 ≤ c.size ∧ (f x).length = 1 ∧ ∀ j, j < 1 → c[o + a * m + b * 1 + j]? = (f x)[j]? := by
  have aa := (List.getElem?_eq_some_iff.1 h).1
  refine ⟨by omega, hf.len x, fun j hj => ?_⟩
  have h1 := PR hf h j hj
  rw [Nat.mul_one] at h1
  rw [show o + a * m + b * 1 + j = o + (p + j) by omega, hc _ (by omega)]
  exact h1
def Pa (l : List Value) (o n : Nat) (X : List Value) : Prop := (∀ j, j < n → l[o + j]? = X[j]?) ∧ o + n ≤ l.length
theorem HE {X : List Value} {n : Nat} (hX : X.length = n) : Pa X 0 n X := ⟨fun j _ => by rw [Nat.zero_add], by omega⟩
theorem BJ {X B : List Value} {n : Nat} (hX : X.length = n) : Pa (X ++ B) 0 n X := by
  subst hX
  exact ⟨fun j hj => by rw [Nat.zero_add, List.getElem?_append_left hj], by simp⟩
theorem Au {A l X : List Value} {k o n : Nat} (hA : A.length = k) (h : Pa l o n X) : Pa (A ++ l) (k + o) n X := by
  subst hA
  refine ⟨fun j hj => ?_, by have := h.2; simp; omega⟩
  rw [List.getElem?_append_right (by omega), show A.length + o + j - A.length = o + j by omega]
  exact h.1 j hj
theorem HH {l X : List Value} {o n : Nat} (h : Pa l o n X) : ∀ j, j < n → (l.toArray)[o + j]? = X[j]? := fun j hj => by simpa using h.1 j hj
theorem Iy {l X : List Value} {o n : Nat} (h : Pa l o n X) : o + n ≤ (l.toArray).size := by simpa using h.2
theorem DN {l : List Value} {o : Nat} {v : Value} (h : Pa l o 1 [v]) : (l.toArray)[o]? = some v := by
  have := h.1 0 (by omega)
  simpa using this
theorem PD {l X : List Value} {o n : Nat} (hX : X.length = n) (h : Pa l o n X) : (l.toArray).extract o (o + n) = X.toArray := Ba (Iy h) hX (HH h)
theorem IG {α : Type} {f : α → List Value} (hf : Qi 1 f) {xs : List α} {n : Nat} (hn : xs.length = n) : (xs.flatMap f).length = n := by rw [MS hf, hn, Nat.mul_one]
theorem lz {l : List Value} {n : Nat} (h : l.length = n) : (l.toArray).size = n := by simpa using h
section
variable {P : Program} {N : Nat} {r : Option Nat} {K : Ctx} {ops : Array Oper} {Q : Env → FS → LH → Prop} {rest : List Oper} {e : Env} {F : FS} {L : LH}
variable {ty : TypeId} {pos : String} {after : Array Edge} {d : Option Nat}
theorem O8 {β : Type} {T : TypeId} {x y : Operand} {b i a m q p : Nat} {f : β → List Value} {xs : List β} {u : β} {v : Value} {n : Nat} {E : TypeId} (hT : ∀ w, (sizeOf T).run P w = .ok 1 w) (hf : Qi 1 f) (hx : ev e x = some (.pointer (some ⟨b, 0 + a * m + q * 1, none⟩))) (hy : ev e y = some v) (hv : f u = [v]) (hi : L[i]? = some (b, .cells (arr f xs) E (0, 0)))
    (hp : p = a * m + q) (g : p < n) (hn : xs.length = n) (k : Cu P N r K ops Q rest e F (L.set i (b, .cells (arr f (xs.set p u)) E (0, 0)))) : Cu P N r K ops Q (⟨none, .store T x y, ty, pos, after, none⟩ :: rest) e F L := by
  have h1 : v.oneCell' = true := hf.one u v (by rw [hv]; simp)
  have ab := Hk hf hn
  have hq : 0 + a * m + q * 1 = p := by omega
  rw [hq] at hx
  refine By (i := i) hT hx hy h1 hi (by rw [ab]; omega) ?_
  have aa := (PN (n := n) (F := F) hf (vs := xs.flatMap f) ⟨rfl, hn⟩ (j := p) (y := u) (v := v) g hv).1
  have : (arr f xs).setIfInBounds p v = arr f (xs.set p u) := by
    apply Array.ext'
    simp only [arr, Array.toList_setIfInBounds]
    rw [Nat.mul_one] at aa
    exact aa
  rw [this]; exact k
def Rx {κ δ : Type} (G : κ → Prop) (ek : κ → Value) (ed : δ → Value) (es : Array MapEntry) (m : List (κ × δ)) : Prop :=
  ∃ m' : List ({k : κ // G k} × δ), IH (fun k => ek k.1) ed es m' ∧ m = m'.map fun p => (p.1.1, p.2)
theorem Rx.nil {κ δ : Type} {G : κ → Prop} {ek : κ → Value} {ed : δ → Value} : Rx G ek ed #[] [] := ⟨[], IH.nil, rfl⟩
variable {κ δ : Type} [DecidableEq κ] {G : κ → Prop} {ek : κ → Value} {ed : δ → Value}
theorem Q8 {T : TypeId} {lits : κ → List Lit} {m D : Nat} (hk : P.keyTypeAt m T = true) (hm : m ≤ 10000) (hf : ∀ k, G k → (ek k).formed P T = true) (hl : ∀ k, G k → P.keyLits D T (ek k).cells.toList = some (lits k)) (hi : ∀ x y, lits x = lits y → x = y) {x y : κ} (gx : G x) (gy : G y) (w : World) :
    (Op.equal T (ek x) (ek y)).run P w = .ok (decide (x = y)) w := by
  obtain ⟨r, hr, aa⟩ := run_equalIn_deep (10000 - m) m T hk w D D _ _ _ _ (hf x gx) (hf y gy) (hl x gx) (hl y gy)
  rw [show 10000 - m + m = 10000 by omega] at hr
  have : r = decide (x = y) := by
    rw [Bool.eq_iff_iff, decide_eq_true_iff, aa]
    exact ⟨hi x y, fun e => by rw [e]⟩
  rw [this] at hr
  exact hr
theorem QG {T : TypeId} {a b : Array Value} {c : Prop} [Decidable c] {w : World} (h : (Op.equal T (.agg a) (.agg b)).run P w = .ok (decide c) w) : (binOp .neq T (.agg a) (.agg b)).run P w = .ok (.bool (decide (¬ c))) w := by
  simp only [binOp]; simp [h]
end
theorem SB {x : Int} (h : Ca x) : (Lit.int .i64 x).wf = true := by
  unfold Ca at h
  simp [Lit.wf, IntKind.min, IntKind.max, IntKind.bits, IntKind.signed]
  omega
theorem N8 {P : Program} {d : Nat} {T : TypeId} {q : IntKind} {n : Int} (hu : P.underlying T = some (.int q)) (hw : (Lit.int q n).wf = true) : P.keyLits (d + 1) T [.int q n] = some [.int q n] := by
  simp [Program.keyLits, hu, hw]
theorem Nh {α β : Type} {f : α → Option β} : ∀ {l : List α} {ls : List β}, El (fun a b => f a = some b) l ls → l.mapM f = some ls
  | _, _, .nil => rfl
  | _, _, .cons h t => by
    rw [List.mapM_cons, h, Nh t]; rfl
theorem NA {k : IntKind} : ∀ {x y : List Int}, x.map (Lit.int k) = y.map (Lit.int k) → x = y
  | [], [], _ => rfl
  | [], _ :: _, h => by cases h
  | _ :: _, [], h => by cases h
  | a :: x, b :: y, h => by
    rw [List.map_cons, List.map_cons] at h
    obtain ⟨h1, h2⟩ := List.cons.inj h
    rw [NA h2, (Lit.int.inj h1).2]
end Go.SH
