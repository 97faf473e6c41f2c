/- A calculus of symbolic heaps over the model's walk: the state of an activation is an environment of temporaries, a store of blocks that no longer change, and a list of blocks that the activation owns. Part A: states, code. -/
import Derived.WalkKit
import Derived.RangeFuncIn
import Derived.TacticsInMore
import Derived.OwnWalkIn
import Derived.RangeFuncCalls
namespace Go.SH
abbrev Env := List (Nat × Value)
def Env.get : Env → Nat → Option Value
  | [], _ => none
  | (k, v) :: e, t => bif Nat.beq k t then some v else Env.get e t
theorem ML {a b : Nat} (h : a ≠ b) : Nat.beq a b = false := by
  cases hb : Nat.beq a b with
  | false => rfl
  | true => exact absurd (Nat.eq_of_beq_eq_true hb) h
def ev (e : Env) : Operand → Option Value
  | .tmp t => e.get t
  | .const v => some v
  | .global g => some (.pointer (some ⟨g, 0, none⟩))
  | .func f => some (.func (.func f) #[] #[])
abbrev FS := Nat → Option Obj
abbrev LH := List (Nat × Obj)
def O7 (F : FS) (w : World) : Prop := ∀ b o, F b = some o → w.heap[b]? = some o
def AN (F F' : FS) : Prop := ∀ b o, F b = some o → F' b = some o
theorem AN.refl (F : FS) : AN F F := fun _ _ h => h
theorem AN.trans {F G H : FS} (h : AN F G) (k : AN G H) : AN F H := fun b o hb => k b o (h b o hb)
structure KU (F : FS) (L : LH) (w : World) : Prop where
  nodup : (L.map Prod.fst).Nodup
  cell : ∀ p ∈ L, w.heap[p.1]? = some p.2
  free : ∀ p ∈ L, F p.1 = none
structure KJ (X : List Nat) (w w' : World) : Prop where
  os : w'.os = w.os
  tape : w'.tape = w.tape
  output : w'.output = w.output
  size : w.heap.size ≤ w'.heap.size
  block : ∀ b, b < w.heap.size → b ∉ X → w'.heap[b]? = w.heap[b]?
theorem KJ.refl (X : List Nat) (w : World) : KJ X w w := ⟨rfl, rfl, rfl, Nat.le_refl _, fun _ _ _ => rfl⟩
theorem KJ.trans {X : List Nat} {a b c : World} (h : KJ X a b) (k : KJ X b c) : KJ X a c :=
  ⟨k.os.trans h.os, k.tape.trans h.tape, k.output.trans h.output, Nat.le_trans h.size k.size,
   fun i hi hx => (k.block i (Nat.lt_of_lt_of_le hi h.size) hx).trans (h.block i hi hx)⟩
structure Ctx where
  w0 : World
  F0 : FS
  X : List Nat
  H0 : LH
structure Gm (K : Ctx) (F : FS) (L : LH) (w : World) : Prop where
  EL : KJ K.X K.w0 w
  LL : O7 F w
  fold : ∀ b, b < K.w0.heap.size → F b = K.F0 b
  own : KU F L w
  J5 : ∀ p ∈ L, p.1 ∈ K.X ∨ K.w0.heap.size ≤ p.1
def NF (D : Nat) : Deferred := { target := .collected D, args := #[] }
def Bn (D : Nat) : Nat × Obj := (D, .deferred (some []))
def St (K : Ctx) (M : List Nat) (F : FS) (L : LH) (w : World) : Prop := Gm K F (L ++ (M.map Bn ++ K.H0)) w
theorem KU.sub {F : FS} {L L' : LH} {w : World} (h : KU F L w) (hp : L'.Sublist L) : KU F L' w :=
  ⟨h.nodup.sublist (hp.map _), fun p hm => h.cell p (hp.subset hm), fun p hm => h.free p (hp.subset hm)⟩
theorem St.EL {K : Ctx} {M : List Nat} {F : FS} {L : LH} {w : World} (h : St K M F L w) : KJ K.X K.w0 w := Gm.EL h
theorem St.LL {K : Ctx} {M : List Nat} {F : FS} {L : LH} {w : World} (h : St K M F L w) : O7 F w := Gm.LL h
theorem St.fold {K : Ctx} {M : List Nat} {F : FS} {L : LH} {w : World} (h : St K M F L w) : ∀ b, b < K.w0.heap.size → F b = K.F0 b := Gm.fold h
theorem St.own {K : Ctx} {M : List Nat} {F : FS} {L : LH} {w : World} (h : St K M F L w) : KU F L w := (Gm.own h).sub (List.sublist_append_left _ _)
theorem St.J5 {K : Ctx} {M : List Nat} {F : FS} {L : LH} {w : World} (h : St K M F L w) : ∀ p ∈ L, p.1 ∈ K.X ∨ K.w0.heap.size ≤ p.1 := fun p hp => Gm.J5 h p (List.mem_append_left _ hp)
structure Ag (N : Nat) (M : List Nat) (e : Env) (a : Act) : Prop where
  ds : a.defers = M.map NF
  size : a.tmps.size = N
  get : ∀ t v, e.get t = some v → a.tmps[t]? = some v
theorem Ag.ev {N : Nat} {M : List Nat} {e : Env} {a : Act} (h : Ag N M e a) {x : Operand} {v : Value} (hx : ev e x = some v) : a.eval x = v := by
  cases x with
  | tmp t => have := h.get t v hx; simp [Act.eval, Array.getD_eq_getD_getElem?, this]
  | const u => simpa [SH.ev, Act.eval] using hx
  | global g => simpa [SH.ev, Act.eval] using hx
  | func f => simpa [SH.ev, Act.eval] using hx
theorem Ag.put {N : Nat} {M : List Nat} {e : Env} {a : Act} (h : Ag N M e a) {d : Nat} (hd : Nat.ble (d + 1) N = true) (v : Value) : Ag N M ((d, v) :: e) (a.put (some d) v) := by
  have a6 : d < N := Nat.le_of_ble_eq_true hd
  refine ⟨h.ds, by simp [Act.put, h.size], fun t u ht => ?_⟩
  by_cases hk : d = t
  · subst hk
    have : v = u := by simpa [Env.get] using ht
    subst this
    simp [Act.put, h.size, a6]
  · have hb : Nat.beq d t = false := ML hk
    have aa : e.get t = some u := by simpa [Env.get, hb] using ht
    have := h.get t u aa
    simp only [Act.put]
    rw [Array.getElem?_setIfInBounds_ne hk]
    exact this
def Env.sub (e e' : Env) : Prop := ∀ t v, e'.get t = some v → e.get t = some v
theorem Ag.weaken {N : Nat} {M : List Nat} {e e' : Env} {a : Act} (h : Ag N M e a) (he : e.sub e') : Ag N M e' a := ⟨h.ds, h.size, fun t v ht => h.get t v (he t v ht)⟩
theorem Env.QB (e : Env) : e.sub [] := fun _ _ h => by simp [Env.get] at h
theorem Env.Qi {e e' : Env} {t : Nat} {v : Value} (h1 : e.get t = some v) (h : e.sub e') : e.sub ((t, v) :: e') := fun u x hx => by
  by_cases hk : t = u
  · subst hk
    have : v = x := by simpa [Env.get] using hx
    subst this; exact h1
  · have hb : Nat.beq t u = false := ML hk
    exact h u x (by simpa [Env.get, hb] using hx)
def GQ (r : Option Nat) : Fence := { Fence.wide with round := r }
@[simp] theorem QP (r : Option Nat) : (GQ r).round = r := rfl
@[simp] theorem Rk (r : Option Nat) (f : FuncId) : (GQ r).fn f := trivial
@[simp] theorem QI (r : Option Nat) : (GQ r).depth = none := rfl
abbrev GK := Exit → Env → FS → LH → Prop
def lift (N : Nat) (K : Ctx) (Q : GK) : Exit → Act → World → Prop := fun ex a w => ∃ M e F L, Ag N M e a ∧ St K M F L w ∧ Q ex e F L
def EO (P : Program) (N : Nat) (r : Option Nat) (K : Ctx) (c : Code) (Q : GK) (e : Env) (F : FS) (L : LH) : Prop :=
  ∀ M a w, Ag N M e a → St K M F L w → c.wpIn (GQ r) 0 P (lift N K Q) a w
def Cr (P : Program) (N : Nat) (r : Option Nat) (K : Ctx) (ops : Array Oper) (Q : Env → FS → LH → Prop) (l : List Oper) (e : Env) (F : FS) (L : LH) : Prop :=
  ∀ M a w, Ag N M e a → St K M F L w → wpListIn (GQ r) 0 P ops (fun ex a w => ex = .normal ∧ ∃ M e F L, Ag N M e a ∧ St K M F L w ∧ Q e F L) l a w
theorem MI {Fe : Fence} {n : Nat} {P : Program} {o : Oper} {a : Act} {next next' : Act → World → Prop} {R R' : Exit → Act → World → Prop} {x : Result Next}
    (hn : ∀ a w, next a w → next' a w) (hq : ∀ e a w, R e a w → R' e a w) (h : o.uponIn Fe n P a next R x) : o.uponIn Fe n P a next' R' x := by
  have a6 : LetsOut R → LetsOut R' := fun ⟨a, w, h⟩ => ⟨a, w, hq _ _ _ h⟩
  unfold Oper.uponIn at h ⊢
  split at h
  · exact hn _ _ h
  · exact hn _ _ h
  · exact hn _ _ h
  · refine ⟨h.1, h.2.1, fun cs hr => ?_⟩
    obtain ⟨e, w', fr, hR, rest⟩ := h.2.2 cs hr
    exact ⟨e, w', fr, by cases e <;> first | exact hn _ _ hR | exact hq _ _ _ hR | exact a6 hR, rest⟩
  · exact ⟨h.1, h.2.mono fun v w h => hn _ _ h⟩
  · exact ⟨h.1, h.2.mono fun e w' hR => by cases e <;> first | exact hn _ _ hR | exact hq _ _ _ hR | exact a6 hR⟩
  · exact hq _ _ _ h
  · exact h
theorem NM {Fe : Fence} {n : Nat} {P : Program} {ops : Array Oper} {R R' : Exit → Act → World → Prop} {l : List Oper} : ∀ {a : Act} {w : World},
    wpListIn Fe n P ops R l a w → (∀ e a w, R e a w → R' e a w) → wpListIn Fe n P ops R' l a w := by
  induction l with
  | nil => exact fun h hq => hq _ _ _ h
  | cons o rest ih =>
    intro a w h hq
    unfold wpListIn at h ⊢
    split
    · rename_i hw; rw [if_pos hw] at h
      exact ⟨h.1, MI (fun _ _ h => ih h hq) hq h.2⟩
    · rename_i hw; rw [if_neg hw] at h
      exact ⟨h.1, ih h.2 hq⟩
section
variable {P : Program} {N : Nat} {r : Option Nat} {K : Ctx} {Q : GK} {e : Env} {F : FS} {L : LH}
theorem PC {Q Q' : GK} (h : ∀ ex e F L, Q ex e F L → Q' ex e F L) {ex : Exit} {a : Act} {w : World} (hq : lift N K Q ex a w) : lift N K Q' ex a w :=
  let ⟨M, e, F, L, h1, h2, h3⟩ := hq; ⟨M, e, F, L, h1, h2, h _ _ _ _ h3⟩
theorem ON {c : Code} {Q' : GK} (h : EO P N r K c Q e F L) (hq : ∀ ex e F L, Q ex e F L → Q' ex e F L) : EO P N r K c Q' e F L :=
  fun M a w ha hs => wpIn_mono (h M a w ha hs) fun _ _ _ q => PC hq q
theorem Az {c : Code} (e' : Env) (he : e.sub e') (h : EO P N r K c Q e' F L) : EO P N r K c Q e F L :=
  fun M a w ha hs => h M a w (ha.weaken he) hs
theorem Aq (h : Q .normal e F L) : EO P N r K .skip Q e F L := fun _ _ _ ha hs => wpIn_skip ⟨_, e, F, L, ha, hs, h⟩
theorem AL {id : Nat} (h : Q (.exit id) e F L) : EO P N r K (.exit id) Q e F L := fun _ _ _ ha hs => wpIn_exit ⟨_, e, F, L, ha, hs, h⟩
theorem As (h : Q .ret e F L) : EO P N r K .ret Q e F L := fun _ _ _ ha hs => wpIn_ret ⟨_, e, F, L, ha, hs, h⟩
def andThen (next : Env → FS → LH → Prop) (Q : GK) : GK
  | .normal, e, F, L => next e F L
  | ex, e, F, L => Q ex e F L
theorem At {x y : Code} (h : EO P N r K x (andThen (EO P N r K y Q) Q) e F L) : EO P N r K (.seq x y) Q e F L := fun M a w ha hs => by
  refine wpIn_seq (wpIn_mono (h M a w ha hs) ?_)
  rintro ex a' w' ⟨M', e', F', L', h1, h2, h3⟩
  cases ex with
  | normal => exact h3 M' a' w' h1 h2
  | _ => exact ⟨M', e', F', L', h1, h2, h3⟩
theorem MU {x y : Code} (Ku : Env → FS → LH → Prop) (h : EO P N r K x (andThen Ku Q) e F L) (k : ∀ e F L, Ku e F L → EO P N r K y Q e F L) : EO P N r K (.seq x y) Q e F L :=
  At (ON h fun ex e F L q => by cases ex <;> first | exact k _ _ _ q | exact q)
theorem Am {next : Env → FS → LH → Prop} {id : Nat} (h : Q (.exit id) e F L) : andThen next Q (.exit id) e F L := h
theorem Al {next : Env → FS → LH → Prop} (h : Q .ret e F L) : andThen next Q .ret e F L := h
theorem AT {c : Operand} {x y : Code} {b : Bool} (hc : ev e c = some (.bool b)) (ht : b = true → EO P N r K x Q e F L) (hf : b = false → EO P N r K y Q e F L) : EO P N r K (.cond c x y) Q e F L := fun M a w ha hs =>
  wpIn_cond_split (ha.ev hc) (fun h => ht h M a w ha hs) (fun h => hf h M a w ha hs)
theorem EP {c : Operand} {x y : Code} {p : Prop} [Decidable p] (hc : ev e c = some (.bool (decide p))) (ht : p → EO P N r K x Q e F L) (hf : ¬ p → EO P N r K y Q e F L) : EO P N r K (.cond c x y) Q e F L :=
  AT hc (fun h => ht (of_decide_eq_true h)) (fun h => hf (of_decide_eq_false h))
def inBlock (id : Nat) (Q : GK) : GK
  | .exit a6, e, F, L => if a6 = id then Q .normal e F L else Q (.exit a6) e F L
  | ex, e, F, L => Q ex e F L
theorem Ap {id : Nat} {c : Code} (h : EO P N r K c (inBlock id Q) e F L) : EO P N r K (.block id c) Q e F L := fun M a w ha hs => by
  refine wpIn_block (wpIn_mono (h M a w ha hs) ?_)
  rintro ex a' w' ⟨M', e', F', L', h1, h2, h3⟩
  cases ex with
  | exit a6 =>
    simp only [inBlock] at h3
    simp only [Exit.inBlock]
    split
    · rename_i Mv; rw [if_pos Mv] at h3; exact ⟨M', e', F', L', h1, h2, h3⟩
    · rename_i Mv; rw [if_neg Mv] at h3; exact ⟨M', e', F', L', h1, h2, h3⟩
  | _ => exact ⟨M', e', F', L', h1, h2, h3⟩
theorem Ay {id : Nat} (h : Q .ret e F L) : inBlock id Q .ret e F L := h
theorem AA {id : Nat} {e : Env} {F : FS} {L : LH} (h : Q .normal e F L) : inBlock id Q (.exit id) e F L := by simp only [inBlock, if_true]; exact h
theorem NG {id a6 : Nat} (aa : Nat.beq a6 id = false) {e : Env} {F : FS} {L : LH} (h : Q (.exit a6) e F L) : inBlock id Q (.exit a6) e F L := by
  simp only [inBlock]; rw [if_neg (Nat.ne_of_beq_eq_false aa)]; exact h
theorem LO {Fe : Fence} {n : Nat} {c : Code} {R : Exit → Act → World → Prop} {σ : Type} (I : σ → Act → World → Prop) (μ : σ → Nat) (s0 : σ) {a : Act} {w : World} (ai : I s0 a w)
    (round : ∀ s a w, I s a w → c.wpIn Fe n P (Exit.then (fun a' w' => ∃ s', I s' a' w' ∧ μ s' < μ s) R) a w) : (Code.loop c).wpIn Fe n P R a w := by
  intro b k cs ao hb hr
  have key : ∀ j s a w, μ s = j → I s a w →
      ∃ e a' w', R e a' w' ∧ ArrivesIn (Machine.fenced P Fe) P (lone (b.atR a (.code c :: .inLoop c :: k)) cs w) b k cs e a' w' := by
    intro j
    induction j using Nat.strongRecOn with
    | _ j ih =>
      intro s a w hn hI
      obtain ⟨e, aa, ab, hq, a6⟩ := round s a w hI b (.inLoop c :: k) cs ao hb hr
      cases e with
      | normal =>
        obtain ⟨s', ae, aq⟩ := hq
        obtain ⟨aj, ak, al, ah, ad⟩ := ih (μ s') (hn ▸ aq) s' aa ab rfl ae
        exact ⟨aj, ak, al, ah, .of_steps (StepsIn.trans a6 (.one (fenced_calm hb hr rfl) stepR_inLoop)) ad⟩
      | exit id => exact ⟨_, aa, ab, hq, .pass (x := .inLoop c) rfl (fun _ _ => .inl (by simp)) a6⟩
      | goto l => exact ⟨_, aa, ab, hq, .pass (x := .inLoop c) rfl (fun _ _ => .inl (by simp)) a6⟩
      | ret => exact ⟨_, aa, ab, hq, .pass (x := .inLoop c) rfl (fun _ _ => .inl (by simp)) a6⟩
      | panic ch => exact ⟨_, aa, ab, hq, .pass (x := .inLoop c) rfl (fun _ _ => .inl (by simp)) a6⟩
      | outgrown => exact ⟨_, aa, ab, hq, .pass (x := .inLoop c) rfl (fun _ _ => .inl (by simp)) a6⟩
  obtain ⟨e, a', w', hq, a6⟩ := key _ s0 a w rfl ai
  exact ⟨e, a', w', hq, .of_steps (.one (fenced_calm hb hr rfl) stepR_loop) a6⟩
theorem An {id : Nat} {l : List Oper} (h : Cr P N r K l.toArray (Q .normal) l e F L) : EO P N r K (.region id l.toArray false) Q e F L := fun M a w ha hs =>
  wpIn_region_lit (NM (h M a w ha hs) (by rintro _ a w ⟨rfl, M, e, F, L, h1, h2, h3⟩; exact ⟨M, e, F, L, h1, h2, h3⟩))
end
end Go.SH
