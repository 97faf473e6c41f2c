/- The calculus, part U: arrays of arrays, structs that hold arrays, keys that hold arrays. -/
import Derived.Test.YtfmapnhfamoecaaGreatZWShT
import Derived.DeepKeys3
namespace Go.SH
open Go.PL
theorem C8 {α : Type} {n : Nat} : ∀ {xs : List α}, xs.length = n + 1 → ∃ a t, xs = a :: t ∧ t.length = n
  | a :: t, h => ⟨a, t, rfl, by simpa using h⟩
theorem WL {α : Type} : ∀ {xs : List α}, xs.length = 0 → xs = []
  | [], _ => rfl
theorem Hc {α : Type} {n m o a b p : Nat} {f : α → List Value} (hf : Tb 1 f) {xs : List α} (hn : xs.length = n) (hp : p = a * m + b) {x : α} (h : xs[p]? = some x) {c : Array Value} (hc : ∀ j, j < n → c[o + j]? = (xs.flatMap f)[j]?) (hle : o + n ≤ c.size) :
    o + a * m + b * 1 + 1 ≤ c.size ∧ (f x).length = 1 ∧ ∀ j, j < 1 → c[o + a * m + b * 1 + j]? = (f x)[j]? := by
  have aa := (List.getElem?_eq_some_iff.1 h).1
  refine ⟨by omega, hf.len x, fun j hj => ?_⟩
  have h1 := RA hf h j hj
  rw [Nat.mul_one] at h1
  rw [show o + a * m + b * 1 + j = o + (p + j) by omega, hc _ (by omega)]
  exact h1
def P9 (l : List Value) (o n : Nat) (X : List Value) : Prop := (∀ j, j < n → l[o + j]? = X[j]?) ∧ o + n ≤ l.length
theorem Ds {X : List Value} {n : Nat} (hX : X.length = n) : P9 X 0 n X := ⟨fun j _ => by rw [Nat.zero_add], by omega⟩
theorem BK {X B : List Value} {n : Nat} (hX : X.length = n) : P9 (X ++ B) 0 n X := by
  subst hX
  exact ⟨fun j hj => by rw [Nat.zero_add, List.getElem?_append_left hj], by simp⟩
theorem Ar {A l X : List Value} {k o n : Nat} (hA : A.length = k) (h : P9 l o n X) : P9 (A ++ l) (k + o) n X := by
  subst hA
  refine ⟨fun j hj => ?_, by have := h.2; simp; omega⟩
  rw [List.getElem?_append_right (by omega), show A.length + o + j - A.length = o + j by omega]
  exact h.1 j hj
theorem KR {l X Y : List Value} {o a b : Nat} (hX : X.length = a) (h1 : P9 l o a X) (h2 : P9 l (o + a) b Y) : P9 l o (a + b) (X ++ Y) := by
  subst hX
  refine ⟨fun j hj => ?_, by have := h2.2; omega⟩
  by_cases h : j < X.length
  · rw [h1.1 j h, List.getElem?_append_left h]
  · have := h2.1 (j - X.length) (by omega)
    rw [show o + X.length + (j - X.length) = o + j by omega] at this
    rw [this, List.getElem?_append_right (by omega)]
theorem GM {l X : List Value} {o n : Nat} (h : P9 l o n X) : ∀ j, j < n → (l.toArray)[o + j]? = X[j]? := fun j hj => by simpa using h.1 j hj
theorem Fq {l X : List Value} {o n : Nat} (h : P9 l o n X) : o + n ≤ (l.toArray).size := by simpa using h.2
theorem EV {l : List Value} {o : Nat} {v : Value} (h : P9 l o 1 [v]) : (l.toArray)[o]? = some v := by
  have := h.1 0 (by omega)
  simpa using this
theorem Jv {l X : List Value} {o n : Nat} (hX : X.length = n) (h : P9 l o n X) : (l.toArray).extract o (o + n) = X.toArray := Cz (Fq h) hX (GM h)
theorem la {A B : List Value} {a b : Nat} (h1 : A.length = a) (h2 : B.length = b) : (A ++ B).length = a + b := by rw [List.length_append, h1, h2]
theorem EJ {α : Type} {f : α → List Value} (hf : Tb 1 f) {xs : List α} {n : Nat} (hn : xs.length = n) : (xs.flatMap f).length = n := by rw [J6 hf, hn, Nat.mul_one]
theorem lz {l : List Value} {n : Nat} (h : l.length = n) : (l.toArray).size = n := by simpa using h
theorem O2 {A B : List Value} (h1 : ∀ v ∈ A, v.oneCell' = true) (h2 : ∀ v ∈ B, v.oneCell' = true) : ∀ v ∈ A ++ B, v.oneCell' = true := fun v hv => (List.mem_append.1 hv).elim (h1 v) (h2 v)
section
variable {P : Program} {N : Nat} {r : Option Nat} {K : Ctx} {ops : Array Oper} {Q : Env → FS → LH → Prop} {rest : List Oper} {e : Env} {F : FS} {L : LH}
variable {ty : TypeId} {pos : String} {after : Array Edge} {d : Option Nat}
theorem Pl {β : Type} {T : TypeId} {x y : Operand} {b i a m q p : Nat} {f : β → List Value} {xs : List β} {u : β} {v : Value} {n : Nat} {E : TypeId} (hT : ∀ w, (sizeOf T).run P w = .ok 1 w) (hf : Tb 1 f) (hx : ev e x = some (.pointer (some ⟨b, 0 + a * m + q * 1, none⟩))) (hy : ev e y = some v) (hv : f u = [v]) (hi : L[i]? = some (b, .cells (arr f xs) E (0, 0)))
    (hp : p = a * m + q) (g : p < n) (hn : xs.length = n) (k : Df P N r K ops Q rest e F (L.set i (b, .cells (arr f (xs.set p u)) E (0, 0)))) : Df P N r K ops Q (⟨none, .store T x y, ty, pos, after, none⟩ :: rest) e F L := by
  have h1 : v.oneCell' = true := hf.one u v (by rw [hv]; simp)
  have ab := EP hf hn
  have hq : 0 + a * m + q * 1 = p := by omega
  rw [hq] at hx
  refine B4 (i := i) hT hx hy h1 hi (by rw [ab]; omega) ?_
  have aa := (R3 (n := n) (F := F) hf (vs := xs.flatMap f) ⟨rfl, hn⟩ (j := p) (y := u) (v := v) g hv).1
  have : (arr f xs).setIfInBounds p v = arr f (xs.set p u) := by
    apply Array.ext'
    simp only [arr, Array.toList_setIfInBounds]
    rw [Nat.mul_one] at aa
    exact aa
  rw [this]; exact k
abbrev RY (P : Program) (T : TypeId) {κ : Type} [DecidableEq κ] (G : κ → Prop) (ek : κ → Value) : Prop := Le P T (fun k : {k : κ // G k} => ek k.1)
def JG {κ δ : Type} (G : κ → Prop) (ek : κ → Value) (ed : δ → Value) (es : Array MapEntry) (m : List (κ × δ)) : Prop :=
  ∃ m' : List ({k : κ // G k} × δ), Dr (fun k => ek k.1) ed es m' ∧ m = m'.map fun p => (p.1.1, p.2)
theorem JG.nil {κ δ : Type} {G : κ → Prop} {ek : κ → Value} {ed : δ → Value} : JG G ek ed #[] [] := ⟨[], Dr.nil, rfl⟩
variable {κ δ : Type} [DecidableEq κ] {G : κ → Prop} {ek : κ → Value} {ed : δ → Value}
theorem Sr (k : {k : κ // G k}) : ∀ m' : List ({k : κ // G k} × δ), Bm (m'.map fun p => (p.1.1, p.2)) k.1 = Bm m' k
  | [] => rfl
  | p :: m' => by
    have ih := Sr k m'
    rw [List.map_cons]
    unfold Bm at ih ⊢
    simp only [List.find?_cons]
    by_cases h : p.1 = k
    · subst h; simp
    · have : ¬ p.1.1 = k.1 := fun e => h (Subtype.ext e)
      simp only [h, this, decide_false]
      exact ih
theorem SX (k : {k : κ // G k}) (v : δ) : ∀ m' : List ({k : κ // G k} × δ), H8 (m'.map fun p => (p.1.1, p.2)) k.1 v = (H8 m' k v).map fun p => (p.1.1, p.2)
  | [] => rfl
  | p :: m' => by
    have ih := SX k v m'
    have e1 : H8 ((p :: m').map fun p => (p.1.1, p.2)) k.1 v = if p.1.1 = k.1 then (k.1, v) :: m'.map (fun p => (p.1.1, p.2)) else (p.1.1, p.2) :: H8 (m'.map fun p => (p.1.1, p.2)) k.1 v := rfl
    have e2 : H8 (p :: m') k v = if p.1 = k then (k, v) :: m' else p :: H8 m' k v := rfl
    rw [e1, e2]
    by_cases h : p.1 = k
    · rw [if_pos h, if_pos (by rw [h])]; rfl
    · rw [if_neg h, if_neg (fun e => h (Subtype.ext e)), ih]; rfl
theorem UA {T TK TE : TypeId} {x y : Operand} {b : Nat} {es : Array MapEntry} {m : List (κ × δ)} {k : κ} {z : Value} {z0 : δ} (aa : z = ed z0) (hT : P.underlying T = some (.map TK TE)) (hk : RY P TK G ek) (hz : ∀ w, (zeroValue TE).run P w = .ok z w) (hx : ev e x = some (.map (some b))) (hy : ev e y = some (ek k))
    (hm : KO F L b es) (hR : JG G ek ed es m) (hg : G k) : Ft P N K e F L (.lookup T x y false) ty (ed ((Bm m k).getD z0)) := by
  obtain ⟨m', h1, rfl⟩ := hR
  have := P2 (ty := ty) (N := N) (K := K) aa hT hk hz hx (k := ⟨k, hg⟩) hy hm h1
  rwa [← Sr] at this
theorem RP {T TK TE : TypeId} {x y z : Operand} {b i cl : Nat} {es : Array MapEntry} {m : List (κ × δ)} {k : κ} {v : δ} (hT : P.underlying T = some (.map TK TE)) (hk : RY P TK G ek) (hx : ev e x = some (.map (some b))) (hy : ev e y = some (ek k)) (hz : ev e z = some (ed v)) (hi : L[i]? = some (b, .map es cl)) (hR : JG G ek ed es m) (hg : G k)
    (kk : ∀ aa ab, JG G ek ed aa (H8 m k v) → Df P N r K ops Q rest e F (L.set i (b, .map aa ab))) :
    Df P N r K ops Q (⟨none, .mapUpdate T x y z, ty, pos, after, none⟩ :: rest) e F L := by
  obtain ⟨m', h1, rfl⟩ := hR
  exact Jk (k := ⟨k, hg⟩) (v := v) hT hk hx hy hz hi h1 fun aa ab h2 => kk aa ab ⟨_, h2, SX ⟨k, hg⟩ v m'⟩
theorem Rx {T : TypeId} {lits : κ → List Lit} {m D : Nat} (hk : P.keyTypeAt m T = true) (hm : m ≤ 10000) (hf : ∀ k, G k → (ek k).formed P T = true) (hl : ∀ k, G k → P.keyLits D T (ek k).cells.toList = some (lits k)) (hi : ∀ x y, lits x = lits y → x = y) {x y : κ} (gx : G x) (gy : G y) (w : World) :
    (Op.equal T (ek x) (ek y)).run P w = .ok (decide (x = y)) w := by
  obtain ⟨r, hr, aa⟩ := run_equalIn_deep (10000 - m) m T hk w D D _ _ _ _ (hf x gx) (hf y gy) (hl x gx) (hl y gy)
  rw [show 10000 - m + m = 10000 by omega] at hr
  have : r = decide (x = y) := by
    rw [Bool.eq_iff_iff, decide_eq_true_iff, aa]
    exact ⟨hi x y, fun e => by rw [e]⟩
  rw [this] at hr
  exact hr
theorem Vc {T : TypeId} {a b : Array Value} {c : Prop} [Decidable c] {w : World} (h : (Op.equal T (.agg a) (.agg b)).run P w = .ok (decide c) w) : (binOp .eql T (.agg a) (.agg b)).run P w = .ok (.bool (decide c)) w := by
  simp only [binOp]; simp [h]
theorem Vi {T : TypeId} {a b : Array Value} {c : Prop} [Decidable c] {w : World} (h : (Op.equal T (.agg a) (.agg b)).run P w = .ok (decide c) w) : (binOp .neq T (.agg a) (.agg b)).run P w = .ok (.bool (decide (¬ c))) w := by
  simp only [binOp]; simp [h]
theorem SB {T : TypeId} {lits : κ → List Lit} {m D : Nat} (hw : (match P.underlying T with | some (.array _ _) | some (.struct _) => true | _ => false) = true) (hk : P.keyTypeAt m T = true) (hm : m ≤ 10000) (hf : ∀ k, G k → (ek k).formed P T = true) (hl : ∀ k, G k → P.keyLits D T (ek k).cells.toList = some (lits k)) (hi : ∀ x y, lits x = lits y → x = y) (hs : ∀ k, G k → Instr.sameBits 10000 (ek k) (ek k) = true) : RY P T G ek :=
  LB hw (fun x y w => by
    rw [Rx hk hm hf hl hi x.2 y.2 w]
    congr 1
    rw [decide_eq_decide]
    exact ⟨Subtype.ext, fun e => by rw [e]⟩) (fun b k w => by
    have := run_checkKey_deep b (10000 - m) m T hk w D _ _ (hf k.1 k.2) (hl k.1 k.2)
    rwa [show 10000 - m + m = 10000 by omega] at this) fun k => hs k.1 k.2
end
theorem XH {x : Int} (h : C6 x) : (Lit.int .i64 x).wf = true := by
  unfold C6 at h
  simp [Lit.wf, IntKind.min, IntKind.max, IntKind.bits, IntKind.signed]
  omega
theorem Me {P : Program} {d : Nat} {T : TypeId} {q : IntKind} {n : Int} (hu : P.underlying T = some (.int q)) (hw : (Lit.int q n).wf = true) : P.keyLits (d + 1) T [.int q n] = some [.int q n] := by
  simp [Program.keyLits, hu, hw]
theorem NW {P : Program} {d : Nat} {T : TypeId} {cs l : List Value} {ls : List Lit} (e : cs = l) (h : P.keyLits d T l = some ls) : P.keyLits d T cs = some ls := by rw [e]; exact h
theorem ME {α β : Type} {f : α → Option β} : ∀ {l : List α} {ls : List β}, EU (fun a b => f a = some b) l ls → l.mapM f = some ls
  | _, _, .nil => rfl
  | _, _, .cons h t => by
    rw [List.mapM_cons, h, ME t]; rfl
theorem Ow {P : Program} {d : Nat} {T : TypeId} {fs : Array Field} {cs : List Value} {r : List Lit} {ls : List (List Lit)} (hu : P.underlying T = some (.struct fs)) (hl : cs.length = P.cellsOf T) (hb : fs.all (·.name != "_") = true)
    (h : EU (fun (f : Field) l => P.keyLits d f.type ((cs.drop f.offset).take (P.cellsOf f.type)) = some l) fs.toList ls) (hr : ls.flatten = r) : P.keyLits (d + 1) T cs = some r := by
  unfold Program.keyLits
  simp only [hu]
  rw [if_pos ⟨hl, hb⟩, ME h, ← hr]; rfl
theorem Lp : ∀ {x y : List Bool}, x.map Lit.bool = y.map Lit.bool → x = y
  | [], [], _ => rfl
  | [], _ :: _, h => by cases h
  | _ :: _, [], h => by cases h
  | a :: x, b :: y, h => by
    rw [List.map_cons, List.map_cons] at h
    obtain ⟨h1, h2⟩ := List.cons.inj h
    rw [Lp h2, Lit.bool.inj h1]
theorem Pt {k : IntKind} : ∀ {x y : List Int}, x.map (Lit.int k) = y.map (Lit.int k) → x = y
  | [], [], _ => rfl
  | [], _ :: _, h => by cases h
  | _ :: _, [], h => by cases h
  | a :: x, b :: y, h => by
    rw [List.map_cons, List.map_cons] at h
    obtain ⟨h1, h2⟩ := List.cons.inj h
    rw [Pt h2, (Lit.int.inj h1).2]
end Go.SH
