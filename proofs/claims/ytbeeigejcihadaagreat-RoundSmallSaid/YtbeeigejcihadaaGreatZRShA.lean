/- A calculus of symbolic heaps over the model's walk: the state of an activation is an environment of temporaries, a store of blocks that no longer change, and a list of blocks that the activation owns. Part A: states, code. -/
import Derived.WalkKit
import Derived.RangeFuncIn
import Derived.TacticsInMore
import Derived.OwnWalkIn
import Derived.RangeFuncCalls
namespace Go.SH
abbrev Env := List (Nat × Value)
def Env.get : Env → Nat → Option Value
  | [], _ => none
  | (k, v) :: e, t => bif Nat.beq k t then some v else Env.get e t
theorem Nd {a b : Nat} (h : a ≠ b) : Nat.beq a b = false := by
  cases hb : Nat.beq a b with
  | false => rfl
  | true => exact absurd (Nat.eq_of_beq_eq_true hb) h
def ev (e : Env) : Operand → Option Value
  | .tmp t => e.get t
  | .const v => some v
  | .global g => some (.pointer (some ⟨g, 0, none⟩))
  | .func f => some (.func (.func f) #[] #[])
abbrev FS := Nat → Option Obj
abbrev LH := List (Nat × Obj)
def Pn (F : FS) (w : World) : Prop := ∀ b o, F b = some o → w.heap[b]? = some o
def AN (F F' : FS) : Prop := ∀ b o, F b = some o → F' b = some o
theorem AN.refl (F : FS) : AN F F := fun _ _ h => h
theorem AN.trans {F G H : FS} (h : AN F G) (k : AN G H) : AN F H := fun b o hb => k b o (h b o hb)
structure K6 (F : FS) (L : LH) (w : World) : Prop where
  nodup : (L.map Prod.fst).Nodup
  cell : ∀ p ∈ L, w.heap[p.1]? = some p.2
  free : ∀ p ∈ L, F p.1 = none
structure Le (X : List Nat) (w w' : World) : Prop where
  os : w'.os = w.os
  tape : w'.tape = w.tape
  output : w'.output = w.output
  size : w.heap.size ≤ w'.heap.size
  block : ∀ b, b < w.heap.size → b ∉ X → w'.heap[b]? = w.heap[b]?
theorem Le.refl (X : List Nat) (w : World) : Le X w w := ⟨rfl, rfl, rfl, Nat.le_refl _, fun _ _ _ => rfl⟩
theorem Le.trans {X : List Nat} {a b c : World} (h : Le X a b) (k : Le X b c) : Le X a c :=
  ⟨k.os.trans h.os, k.tape.trans h.tape, k.output.trans h.output, Nat.le_trans h.size k.size,
   fun i hi hx => (k.block i (Nat.lt_of_lt_of_le hi h.size) hx).trans (h.block i hi hx)⟩
structure Ctx where
  w0 : World
  F0 : FS
  X : List Nat
  H0 : LH
structure HO (K : Ctx) (F : FS) (L : LH) (w : World) : Prop where
  FD : Le K.X K.w0 w
  My : Pn F w
  fold : ∀ b, b < K.w0.heap.size → F b = K.F0 b
  own : K6 F L w
  KC : ∀ p ∈ L, p.1 ∈ K.X ∨ K.w0.heap.size ≤ p.1
def N3 (D : Nat) : Deferred := { target := .collected D, args := #[] }
def B5 (D : Nat) : Nat × Obj := (D, .deferred (some []))
def St (K : Ctx) (M : List Nat) (F : FS) (L : LH) (w : World) : Prop := HO K F (L ++ (M.map B5 ++ K.H0)) w
theorem K6.sub {F : FS} {L L' : LH} {w : World} (h : K6 F L w) (hp : L'.Sublist L) : K6 F L' w :=
  ⟨h.nodup.sublist (hp.map _), fun p hm => h.cell p (hp.subset hm), fun p hm => h.free p (hp.subset hm)⟩
theorem St.FD {K : Ctx} {M : List Nat} {F : FS} {L : LH} {w : World} (h : St K M F L w) : Le K.X K.w0 w := HO.FD h
theorem St.My {K : Ctx} {M : List Nat} {F : FS} {L : LH} {w : World} (h : St K M F L w) : Pn F w := HO.My h
theorem St.fold {K : Ctx} {M : List Nat} {F : FS} {L : LH} {w : World} (h : St K M F L w) : ∀ b, b < K.w0.heap.size → F b = K.F0 b := HO.fold h
theorem St.own {K : Ctx} {M : List Nat} {F : FS} {L : LH} {w : World} (h : St K M F L w) : K6 F L w := (HO.own h).sub (List.sublist_append_left _ _)
theorem St.KC {K : Ctx} {M : List Nat} {F : FS} {L : LH} {w : World} (h : St K M F L w) : ∀ p ∈ L, p.1 ∈ K.X ∨ K.w0.heap.size ≤ p.1 := fun p hp => HO.KC h p (List.mem_append_left _ hp)
structure Ag (N : Nat) (M : List Nat) (e : Env) (a : Act) : Prop where
  ds : a.defers = M.map N3
  size : a.tmps.size = N
  get : ∀ t v, e.get t = some v → a.tmps[t]? = some v
theorem Ag.ev {N : Nat} {M : List Nat} {e : Env} {a : Act} (h : Ag N M e a) {x : Operand} {v : Value} (hx : ev e x = some v) : a.eval x = v := by
  cases x with
  | tmp t => have := h.get t v hx; simp [Act.eval, Array.getD_eq_getD_getElem?, this]
  | const u => simpa [SH.ev, Act.eval] using hx
  | global g => simpa [SH.ev, Act.eval] using hx
  | func f => simpa [SH.ev, Act.eval] using hx
theorem Ag.put {N : Nat} {M : List Nat} {e : Env} {a : Act} (h : Ag N M e a) {d : Nat} (hd : Nat.ble (d + 1) N = true) (v : Value) : Ag N M ((d, v) :: e) (a.put (some d) v) := by
  have aa : d < N := Nat.le_of_ble_eq_true hd
  refine ⟨h.ds, by simp [Act.put, h.size], fun t u ht => ?_⟩
  by_cases hk : d = t
  · subst hk
    have : v = u := by simpa [Env.get] using ht
    subst this
    simp [Act.put, h.size, aa]
  · have hb : Nat.beq d t = false := Nd hk
    have ab : e.get t = some u := by simpa [Env.get, hb] using ht
    have := h.get t u ab
    simp only [Act.put]
    rw [Array.getElem?_setIfInBounds_ne hk]
    exact this
def Env.sub (e e' : Env) : Prop := ∀ t v, e'.get t = some v → e.get t = some v
theorem Ag.weaken {N : Nat} {M : List Nat} {e e' : Env} {a : Act} (h : Ag N M e a) (he : e.sub e') : Ag N M e' a := ⟨h.ds, h.size, fun t v ht => h.get t v (he t v ht)⟩
theorem Env.Rn (e : Env) : e.sub [] := fun _ _ h => by simp [Env.get] at h
theorem Env.QB {e e' : Env} {t : Nat} {v : Value} (h1 : e.get t = some v) (h : e.sub e') : e.sub ((t, v) :: e') := fun u x hx => by
  by_cases hk : t = u
  · subst hk
    have : v = x := by simpa [Env.get] using hx
    subst this; exact h1
  · have hb : Nat.beq t u = false := Nd hk
    exact h u x (by simpa [Env.get, hb] using hx)
def G1 (r : Option Nat) : Fence := { Fence.wide with round := r }
@[simp] theorem RF (r : Option Nat) : (G1 r).round = r := rfl
@[simp] theorem R7 (r : Option Nat) (f : FuncId) : (G1 r).fn f := trivial
@[simp] theorem Ry (r : Option Nat) : (G1 r).depth = none := rfl
abbrev Gs := Exit → Env → FS → LH → Prop
def lift (N : Nat) (K : Ctx) (Q : Gs) : Exit → Act → World → Prop := fun ex a w => ∃ M e F L, Ag N M e a ∧ St K M F L w ∧ Q ex e F L
def FP (P : Program) (N : Nat) (r : Option Nat) (K : Ctx) (c : Code) (Q : Gs) (e : Env) (F : FS) (L : LH) : Prop :=
  ∀ M a w, Ag N M e a → St K M F L w → c.wpIn (G1 r) 0 P (lift N K Q) a w
def Cu (P : Program) (N : Nat) (r : Option Nat) (K : Ctx) (ops : Array Oper) (Q : Env → FS → LH → Prop) (l : List Oper) (e : Env) (F : FS) (L : LH) : Prop :=
  ∀ M a w, Ag N M e a → St K M F L w → wpListIn (G1 r) 0 P ops (fun ex a w => ex = .normal ∧ ∃ M e F L, Ag N M e a ∧ St K M F L w ∧ Q e F L) l a w
theorem Ni {Fe : Fence} {n : Nat} {P : Program} {o : Oper} {a : Act} {next next' : Act → World → Prop} {R R' : Exit → Act → World → Prop} {x : Result Next}
    (hn : ∀ a w, next a w → next' a w) (hq : ∀ e a w, R e a w → R' e a w) (h : o.uponIn Fe n P a next R x) : o.uponIn Fe n P a next' R' x := by
  have aa : LetsOut R → LetsOut R' := fun ⟨a, w, h⟩ => ⟨a, w, hq _ _ _ h⟩
  unfold Oper.uponIn at h ⊢
  split at h
  · exact hn _ _ h
  · exact hn _ _ h
  · exact hn _ _ h
  · refine ⟨h.1, h.2.1, fun cs hr => ?_⟩
    obtain ⟨e, w', fr, hR, rest⟩ := h.2.2 cs hr
    exact ⟨e, w', fr, by cases e <;> first | exact hn _ _ hR | exact hq _ _ _ hR | exact aa hR, rest⟩
  · exact ⟨h.1, h.2.mono fun v w h => hn _ _ h⟩
  · exact ⟨h.1, h.2.mono fun e w' hR => by cases e <;> first | exact hn _ _ hR | exact hq _ _ _ hR | exact aa hR⟩
  · exact hq _ _ _ h
  · exact h
theorem Od {Fe : Fence} {n : Nat} {P : Program} {ops : Array Oper} {R R' : Exit → Act → World → Prop} {l : List Oper} : ∀ {a : Act} {w : World},
    wpListIn Fe n P ops R l a w → (∀ e a w, R e a w → R' e a w) → wpListIn Fe n P ops R' l a w := by
  induction l with
  | nil => exact fun h hq => hq _ _ _ h
  | cons o rest ih =>
    intro a w h hq
    unfold wpListIn at h ⊢
    split
    · rename_i hw; rw [if_pos hw] at h
      exact ⟨h.1, Ni (fun _ _ h => ih h hq) hq h.2⟩
    · rename_i hw; rw [if_neg hw] at h
      exact ⟨h.1, ih h.2 hq⟩
section
variable {P : Program} {N : Nat} {r : Option Nat} {K : Ctx} {Q : Gs} {e : Env} {F : FS} {L : LH}
theorem PW {Q Q' : Gs} (h : ∀ ex e F L, Q ex e F L → Q' ex e F L) {ex : Exit} {a : Act} {w : World} (hq : lift N K Q ex a w) : lift N K Q' ex a w :=
  let ⟨M, e, F, L, h1, h2, h3⟩ := hq; ⟨M, e, F, L, h1, h2, h _ _ _ _ h3⟩
theorem O1 {c : Code} {Q' : Gs} (h : FP P N r K c Q e F L) (hq : ∀ ex e F L, Q ex e F L → Q' ex e F L) : FP P N r K c Q' e F L :=
  fun M a w ha hs => wpIn_mono (h M a w ha hs) fun _ _ _ q => PW hq q
theorem Az {c : Code} (e' : Env) (he : e.sub e') (h : FP P N r K c Q e' F L) : FP P N r K c Q e F L :=
  fun M a w ha hs => h M a w (ha.weaken he) hs
theorem Ao (h : Q .normal e F L) : FP P N r K .skip Q e F L := fun _ _ _ ha hs => wpIn_skip ⟨_, e, F, L, ha, hs, h⟩
theorem AI {id : Nat} (h : Q (.exit id) e F L) : FP P N r K (.exit id) Q e F L := fun _ _ _ ha hs => wpIn_exit ⟨_, e, F, L, ha, hs, h⟩
theorem AA (h : Q .ret e F L) : FP P N r K .ret Q e F L := fun _ _ _ ha hs => wpIn_ret ⟨_, e, F, L, ha, hs, h⟩
def andThen (next : Env → FS → LH → Prop) (Q : Gs) : Gs
  | .normal, e, F, L => next e F L
  | ex, e, F, L => Q ex e F L
theorem Aq {x y : Code} (h : FP P N r K x (andThen (FP P N r K y Q) Q) e F L) : FP P N r K (.seq x y) Q e F L := fun M a w ha hs => by
  refine wpIn_seq (wpIn_mono (h M a w ha hs) ?_)
  rintro ex a' w' ⟨M', e', F', L', h1, h2, h3⟩
  cases ex with
  | normal => exact h3 M' a' w' h1 h2
  | _ => exact ⟨M', e', F', L', h1, h2, h3⟩
theorem Nw {x y : Code} (KU : Env → FS → LH → Prop) (h : FP P N r K x (andThen KU Q) e F L) (k : ∀ e F L, KU e F L → FP P N r K y Q e F L) : FP P N r K (.seq x y) Q e F L :=
  Aq (O1 h fun ex e F L q => by cases ex <;> first | exact k _ _ _ q | exact q)
theorem Am {next : Env → FS → LH → Prop} {id : Nat} (h : Q (.exit id) e F L) : andThen next Q (.exit id) e F L := h
theorem As {next : Env → FS → LH → Prop} (h : Q .ret e F L) : andThen next Q .ret e F L := h
theorem AR {c : Operand} {x y : Code} {b : Bool} (hc : ev e c = some (.bool b)) (ht : b = true → FP P N r K x Q e F L) (hf : b = false → FP P N r K y Q e F L) : FP P N r K (.cond c x y) Q e F L := fun M a w ha hs =>
  wpIn_cond_split (ha.ev hc) (fun h => ht h M a w ha hs) (fun h => hf h M a w ha hs)
theorem BP {c : Operand} {x y : Code} {p : Prop} [Decidable p] (hc : ev e c = some (.bool (decide p))) (ht : p → FP P N r K x Q e F L) (hf : ¬ p → FP P N r K y Q e F L) : FP P N r K (.cond c x y) Q e F L :=
  AR hc (fun h => ht (of_decide_eq_true h)) (fun h => hf (of_decide_eq_false h))
def inBlock (id : Nat) (Q : Gs) : Gs
  | .exit aa, e, F, L => if aa = id then Q .normal e F L else Q (.exit aa) e F L
  | ex, e, F, L => Q ex e F L
theorem Ap {id : Nat} {c : Code} (h : FP P N r K c (inBlock id Q) e F L) : FP P N r K (.block id c) Q e F L := fun M a w ha hs => by
  refine wpIn_block (wpIn_mono (h M a w ha hs) ?_)
  rintro ex a' w' ⟨M', e', F', L', h1, h2, h3⟩
  cases ex with
  | exit aa =>
    simp only [inBlock] at h3
    simp only [Exit.inBlock]
    split
    · rename_i MY; rw [if_pos MY] at h3; exact ⟨M', e', F', L', h1, h2, h3⟩
    · rename_i MY; rw [if_neg MY] at h3; exact ⟨M', e', F', L', h1, h2, h3⟩
  | _ => exact ⟨M', e', F', L', h1, h2, h3⟩
theorem AK {id : Nat} (h : Q .ret e F L) : inBlock id Q .ret e F L := h
theorem At {id : Nat} {e : Env} {F : FS} {L : LH} (h : Q .normal e F L) : inBlock id Q (.exit id) e F L := by simp only [inBlock, if_true]; exact h
theorem Ki {id aa : Nat} (ab : Nat.beq aa id = false) {e : Env} {F : FS} {L : LH} (h : Q (.exit aa) e F L) : inBlock id Q (.exit aa) e F L := by
  simp only [inBlock]; rw [if_neg (Nat.ne_of_beq_eq_false ab)]; exact h
theorem LV {Fe : Fence} {n : Nat} {c : Code} {R : Exit → Act → World → Prop} {σ : Type} (I : σ → Act → World → Prop) (μ : σ → Nat) (s0 : σ) {a : Act} {w : World} (aj : I s0 a w)
    (round : ∀ s a w, I s a w → c.wpIn Fe n P (Exit.then (fun a' w' => ∃ s', I s' a' w' ∧ μ s' < μ s) R) a w) : (Code.loop c).wpIn Fe n P R a w := by
  intro b k cs aq hb hr
  have key : ∀ j s a w, μ s = j → I s a w →
      ∃ e a' w', R e a' w' ∧ ArrivesIn (Machine.fenced P Fe) P (lone (b.atR a (.code c :: .inLoop c :: k)) cs w) b k cs e a' w' := by
    intro j
    induction j using Nat.strongRecOn with
    | _ j ih =>
      intro s a w hn hI
      obtain ⟨e, ab, ad, hq, aa⟩ := round s a w hI b (.inLoop c :: k) cs aq hb hr
      cases e with
      | normal =>
        obtain ⟨s', ah, ar⟩ := hq
        obtain ⟨ak, al, ao, ai, ae⟩ := ih (μ s') (hn ▸ ar) s' ab ad rfl ah
        exact ⟨ak, al, ao, ai, .of_steps (StepsIn.trans aa (.one (fenced_calm hb hr rfl) stepR_inLoop)) ae⟩
      | exit id => exact ⟨_, ab, ad, hq, .pass (x := .inLoop c) rfl (fun _ _ => .inl (by simp)) aa⟩
      | goto l => exact ⟨_, ab, ad, hq, .pass (x := .inLoop c) rfl (fun _ _ => .inl (by simp)) aa⟩
      | ret => exact ⟨_, ab, ad, hq, .pass (x := .inLoop c) rfl (fun _ _ => .inl (by simp)) aa⟩
      | panic ch => exact ⟨_, ab, ad, hq, .pass (x := .inLoop c) rfl (fun _ _ => .inl (by simp)) aa⟩
      | outgrown => exact ⟨_, ab, ad, hq, .pass (x := .inLoop c) rfl (fun _ _ => .inl (by simp)) aa⟩
  obtain ⟨e, a', w', hq, aa⟩ := key _ s0 a w rfl aj
  exact ⟨e, a', w', hq, .of_steps (.one (fenced_calm hb hr rfl) stepR_loop) aa⟩
theorem An {id : Nat} {l : List Oper} (h : Cu P N r K l.toArray (Q .normal) l e F L) : FP P N r K (.region id l.toArray false) Q e F L := fun M a w ha hs =>
  wpIn_region_lit (Od (h M a w ha hs) (by rintro _ a w ⟨rfl, M, e, F, L, h1, h2, h3⟩; exact ⟨M, e, F, L, h1, h2, h3⟩))
end
end Go.SH
