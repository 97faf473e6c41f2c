/- A calculus of symbolic heaps over the model's walk: the state of an activation is an environment of temporaries, a store of blocks that no longer change, and a list of blocks that the activation owns. Part A: states, code. -/
import Derived.WalkKit
import Derived.RangeFuncIn
import Derived.TacticsInMore
import Derived.OwnWalkIn
import Derived.RangeFuncCalls
namespace Go.SH
abbrev Env := List (Nat × Value)
def Env.get : Env → Nat → Option Value
  | [], _ => none
  | (k, v) :: e, t => bif Nat.beq k t then some v else Env.get e t
theorem M7 {a b : Nat} (h : a ≠ b) : Nat.beq a b = false := by
  cases hb : Nat.beq a b with
  | false => rfl
  | true => exact absurd (Nat.eq_of_beq_eq_true hb) h
def ev (e : Env) : Operand → Option Value
  | .tmp t => e.get t
  | .const v => some v
  | .global g => some (.pointer (some ⟨g, 0, none⟩))
  | .func f => some (.func (.func f) #[] #[])
abbrev FS := Nat → Option Obj
abbrev LH := List (Nat × Obj)
def PQ (F : FS) (w : World) : Prop := ∀ b o, F b = some o → w.heap[b]? = some o
def AQ (F F' : FS) : Prop := ∀ b o, F b = some o → F' b = some o
theorem AQ.refl (F : FS) : AQ F F := fun _ _ h => h
theorem AQ.trans {F G H : FS} (h : AQ F G) (k : AQ G H) : AQ F H := fun b o hb => k b o (h b o hb)
structure Ll (F : FS) (L : LH) (w : World) : Prop where
  nodup : (L.map Prod.fst).Nodup
  cell : ∀ p ∈ L, w.heap[p.1]? = some p.2
  free : ∀ p ∈ L, F p.1 = none
structure Lp (X : List Nat) (w w' : World) : Prop where
  os : w'.os = w.os
  tape : w'.tape = w.tape
  output : w'.output = w.output
  size : w.heap.size ≤ w'.heap.size
  block : ∀ b, b < w.heap.size → b ∉ X → w'.heap[b]? = w.heap[b]?
theorem Lp.refl (X : List Nat) (w : World) : Lp X w w := ⟨rfl, rfl, rfl, Nat.le_refl _, fun _ _ _ => rfl⟩
theorem Lp.trans {X : List Nat} {a b c : World} (h : Lp X a b) (k : Lp X b c) : Lp X a c :=
  ⟨k.os.trans h.os, k.tape.trans h.tape, k.output.trans h.output, Nat.le_trans h.size k.size,
   fun i hi hx => (k.block i (Nat.lt_of_lt_of_le hi h.size) hx).trans (h.block i hi hx)⟩
structure Ctx where
  w0 : World
  F0 : FS
  X : List Nat
  H0 : LH
structure HQ (K : Ctx) (F : FS) (L : LH) (w : World) : Prop where
  Fw : Lp K.X K.w0 w
  MA : PQ F w
  fold : ∀ b, b < K.w0.heap.size → F b = K.F0 b
  own : Ll F L w
  KO : ∀ p ∈ L, p.1 ∈ K.X ∨ K.w0.heap.size ≤ p.1
def N3 (D : Nat) : Deferred := { target := .collected D, args := #[] }
def B4 (D : Nat) : Nat × Obj := (D, .deferred (some []))
def St (K : Ctx) (M : List Nat) (F : FS) (L : LH) (w : World) : Prop := HQ K F (L ++ (M.map B4 ++ K.H0)) w
theorem Ll.sub {F : FS} {L L' : LH} {w : World} (h : Ll F L w) (hp : L'.Sublist L) : Ll F L' w :=
  ⟨h.nodup.sublist (hp.map _), fun p hm => h.cell p (hp.subset hm), fun p hm => h.free p (hp.subset hm)⟩
theorem St.Fw {K : Ctx} {M : List Nat} {F : FS} {L : LH} {w : World} (h : St K M F L w) : Lp K.X K.w0 w := HQ.Fw h
theorem St.MA {K : Ctx} {M : List Nat} {F : FS} {L : LH} {w : World} (h : St K M F L w) : PQ F w := HQ.MA h
theorem St.fold {K : Ctx} {M : List Nat} {F : FS} {L : LH} {w : World} (h : St K M F L w) : ∀ b, b < K.w0.heap.size → F b = K.F0 b := HQ.fold h
theorem St.own {K : Ctx} {M : List Nat} {F : FS} {L : LH} {w : World} (h : St K M F L w) : Ll F L w := (HQ.own h).sub (List.sublist_append_left _ _)
theorem St.KO {K : Ctx} {M : List Nat} {F : FS} {L : LH} {w : World} (h : St K M F L w) : ∀ p ∈ L, p.1 ∈ K.X ∨ K.w0.heap.size ≤ p.1 := fun p hp => HQ.KO h p (List.mem_append_left _ hp)
structure Ag (N : Nat) (M : List Nat) (e : Env) (a : Act) : Prop where
  ds : a.defers = M.map N3
  size : a.tmps.size = N
  get : ∀ t v, e.get t = some v → a.tmps[t]? = some v
theorem Ag.ev {N : Nat} {M : List Nat} {e : Env} {a : Act} (h : Ag N M e a) {x : Operand} {v : Value} (hx : ev e x = some v) : a.eval x = v := by
  cases x with
  | tmp t => have := h.get t v hx; simp [Act.eval, Array.getD_eq_getD_getElem?, this]
  | const u => simpa [SH.ev, Act.eval] using hx
  | global g => simpa [SH.ev, Act.eval] using hx
  | func f => simpa [SH.ev, Act.eval] using hx
theorem Ag.put {N : Nat} {M : List Nat} {e : Env} {a : Act} (h : Ag N M e a) {d : Nat} (hd : Nat.ble (d + 1) N = true) (v : Value) : Ag N M ((d, v) :: e) (a.put (some d) v) := by
  have aa : d < N := Nat.le_of_ble_eq_true hd
  refine ⟨h.ds, by simp [Act.put, h.size], fun t u ht => ?_⟩
  by_cases hk : d = t
  · subst hk
    have : v = u := by simpa [Env.get] using ht
    subst this
    simp [Act.put, h.size, aa]
  · have hb : Nat.beq d t = false := M7 hk
    have ab : e.get t = some u := by simpa [Env.get, hb] using ht
    have := h.get t u ab
    simp only [Act.put]
    rw [Array.getElem?_setIfInBounds_ne hk]
    exact this
def Env.sub (e e' : Env) : Prop := ∀ t v, e'.get t = some v → e.get t = some v
theorem Ag.weaken {N : Nat} {M : List Nat} {e e' : Env} {a : Act} (h : Ag N M e a) (he : e.sub e') : Ag N M e' a := ⟨h.ds, h.size, fun t v ht => h.get t v (he t v ht)⟩
theorem Env.RF (e : Env) : e.sub [] := fun _ _ h => by simp [Env.get] at h
theorem Env.Rh {e e' : Env} {t : Nat} {v : Value} (h1 : e.get t = some v) (h : e.sub e') : e.sub ((t, v) :: e') := fun u x hx => by
  by_cases hk : t = u
  · subst hk
    have : v = x := by simpa [Env.get] using hx
    subst this; exact h1
  · have hb : Nat.beq t u = false := M7 hk
    exact h u x (by simpa [Env.get, hb] using hx)
def GW (r : Option Nat) : Fence := { Fence.wide with round := r }
@[simp] theorem RP (r : Option Nat) : (GW r).round = r := rfl
@[simp] theorem SS (r : Option Nat) (f : FuncId) : (GW r).fn f := trivial
@[simp] theorem RT (r : Option Nat) : (GW r).depth = none := rfl
abbrev GI := Exit → Env → FS → LH → Prop
def lift (N : Nat) (K : Ctx) (Q : GI) : Exit → Act → World → Prop := fun ex a w => ∃ M e F L, Ag N M e a ∧ St K M F L w ∧ Q ex e F L
def Gg (P : Program) (N : Nat) (r : Option Nat) (K : Ctx) (c : Code) (Q : GI) (e : Env) (F : FS) (L : LH) : Prop :=
  ∀ M a w, Ag N M e a → St K M F L w → c.wpIn (GW r) 0 P (lift N K Q) a w
def Ct (P : Program) (N : Nat) (r : Option Nat) (K : Ctx) (ops : Array Oper) (Q : Env → FS → LH → Prop) (l : List Oper) (e : Env) (F : FS) (L : LH) : Prop :=
  ∀ M a w, Ag N M e a → St K M F L w → wpListIn (GW r) 0 P ops (fun ex a w => ex = .normal ∧ ∃ M e F L, Ag N M e a ∧ St K M F L w ∧ Q e F L) l a w
theorem Nj {Fe : Fence} {n : Nat} {P : Program} {o : Oper} {a : Act} {next next' : Act → World → Prop} {R R' : Exit → Act → World → Prop} {x : Result Next}
    (hn : ∀ a w, next a w → next' a w) (hq : ∀ e a w, R e a w → R' e a w) (h : o.uponIn Fe n P a next R x) : o.uponIn Fe n P a next' R' x := by
  have aa : LetsOut R → LetsOut R' := fun ⟨a, w, h⟩ => ⟨a, w, hq _ _ _ h⟩
  unfold Oper.uponIn at h ⊢
  split at h
  · exact hn _ _ h
  · exact hn _ _ h
  · exact hn _ _ h
  · refine ⟨h.1, h.2.1, fun cs hr => ?_⟩
    obtain ⟨e, w', fr, hR, rest⟩ := h.2.2 cs hr
    exact ⟨e, w', fr, by cases e <;> first | exact hn _ _ hR | exact hq _ _ _ hR | exact aa hR, rest⟩
  · exact ⟨h.1, h.2.mono fun v w h => hn _ _ h⟩
  · exact ⟨h.1, h.2.mono fun e w' hR => by cases e <;> first | exact hn _ _ hR | exact hq _ _ _ hR | exact aa hR⟩
  · exact hq _ _ _ h
  · exact h
theorem On {Fe : Fence} {n : Nat} {P : Program} {ops : Array Oper} {R R' : Exit → Act → World → Prop} {l : List Oper} : ∀ {a : Act} {w : World},
    wpListIn Fe n P ops R l a w → (∀ e a w, R e a w → R' e a w) → wpListIn Fe n P ops R' l a w := by
  induction l with
  | nil => exact fun h hq => hq _ _ _ h
  | cons o rest ih =>
    intro a w h hq
    unfold wpListIn at h ⊢
    split
    · rename_i hw; rw [if_pos hw] at h
      exact ⟨h.1, Nj (fun _ _ h => ih h hq) hq h.2⟩
    · rename_i hw; rw [if_neg hw] at h
      exact ⟨h.1, ih h.2 hq⟩
section
variable {P : Program} {N : Nat} {r : Option Nat} {K : Ctx} {Q : GI} {e : Env} {F : FS} {L : LH}
theorem QJ {Q Q' : GI} (h : ∀ ex e F L, Q ex e F L → Q' ex e F L) {ex : Exit} {a : Act} {w : World} (hq : lift N K Q ex a w) : lift N K Q' ex a w :=
  let ⟨M, e, F, L, h1, h2, h3⟩ := hq; ⟨M, e, F, L, h1, h2, h _ _ _ _ h3⟩
theorem Pg {c : Code} {Q' : GI} (h : Gg P N r K c Q e F L) (hq : ∀ ex e F L, Q ex e F L → Q' ex e F L) : Gg P N r K c Q' e F L :=
  fun M a w ha hs => wpIn_mono (h M a w ha hs) fun _ _ _ q => QJ hq q
theorem AA {c : Code} (e' : Env) (he : e.sub e') (h : Gg P N r K c Q e' F L) : Gg P N r K c Q e F L :=
  fun M a w ha hs => h M a w (ha.weaken he) hs
theorem Ar (h : Q .normal e F L) : Gg P N r K .skip Q e F L := fun _ _ _ ha hs => wpIn_skip ⟨_, e, F, L, ha, hs, h⟩
theorem AM {id : Nat} (h : Q (.exit id) e F L) : Gg P N r K (.exit id) Q e F L := fun _ _ _ ha hs => wpIn_exit ⟨_, e, F, L, ha, hs, h⟩
theorem Aw (h : Q .ret e F L) : Gg P N r K .ret Q e F L := fun _ _ _ ha hs => wpIn_ret ⟨_, e, F, L, ha, hs, h⟩
def andThen (next : Env → FS → LH → Prop) (Q : GI) : GI
  | .normal, e, F, L => next e F L
  | ex, e, F, L => Q ex e F L
theorem Au {x y : Code} (h : Gg P N r K x (andThen (Gg P N r K y Q) Q) e F L) : Gg P N r K (.seq x y) Q e F L := fun M a w ha hs => by
  refine wpIn_seq (wpIn_mono (h M a w ha hs) ?_)
  rintro ex a' w' ⟨M', e', F', L', h1, h2, h3⟩
  cases ex with
  | normal => exact h3 M' a' w' h1 h2
  | _ => exact ⟨M', e', F', L', h1, h2, h3⟩
theorem Ns {x y : Code} (KA : Env → FS → LH → Prop) (h : Gg P N r K x (andThen KA Q) e F L) (k : ∀ e F L, KA e F L → Gg P N r K y Q e F L) : Gg P N r K (.seq x y) Q e F L :=
  Au (Pg h fun ex e F L q => by cases ex <;> first | exact k _ _ _ q | exact q)
theorem Aj {next : Env → FS → LH → Prop} {id : Nat} (h : Q (.exit id) e F L) : andThen next Q (.exit id) e F L := h
theorem Av {next : Env → FS → LH → Prop} (h : Q .ret e F L) : andThen next Q .ret e F L := h
theorem AV {c : Operand} {x y : Code} {b : Bool} (hc : ev e c = some (.bool b)) (ht : b = true → Gg P N r K x Q e F L) (hf : b = false → Gg P N r K y Q e F L) : Gg P N r K (.cond c x y) Q e F L := fun M a w ha hs =>
  wpIn_cond_split (ha.ev hc) (fun h => ht h M a w ha hs) (fun h => hf h M a w ha hs)
theorem B9 {c : Operand} {x y : Code} {p : Prop} [Decidable p] (hc : ev e c = some (.bool (decide p))) (ht : p → Gg P N r K x Q e F L) (hf : ¬ p → Gg P N r K y Q e F L) : Gg P N r K (.cond c x y) Q e F L :=
  AV hc (fun h => ht (of_decide_eq_true h)) (fun h => hf (of_decide_eq_false h))
def inBlock (id : Nat) (Q : GI) : GI
  | .exit aa, e, F, L => if aa = id then Q .normal e F L else Q (.exit aa) e F L
  | ex, e, F, L => Q ex e F L
theorem As {id : Nat} {c : Code} (h : Gg P N r K c (inBlock id Q) e F L) : Gg P N r K (.block id c) Q e F L := fun M a w ha hs => by
  refine wpIn_block (wpIn_mono (h M a w ha hs) ?_)
  rintro ex a' w' ⟨M', e', F', L', h1, h2, h3⟩
  cases ex with
  | exit aa =>
    simp only [inBlock] at h3
    simp only [Exit.inBlock]
    split
    · rename_i M0; rw [if_pos M0] at h3; exact ⟨M', e', F', L', h1, h2, h3⟩
    · rename_i M0; rw [if_neg M0] at h3; exact ⟨M', e', F', L', h1, h2, h3⟩
  | _ => exact ⟨M', e', F', L', h1, h2, h3⟩
theorem AH {id : Nat} (h : Q .ret e F L) : inBlock id Q .ret e F L := h
theorem Ax {id : Nat} {e : Env} {F : FS} {L : LH} (h : Q .normal e F L) : inBlock id Q (.exit id) e F L := by simp only [inBlock, if_true]; exact h
theorem Kv {id aa : Nat} (ab : Nat.beq aa id = false) {e : Env} {F : FS} {L : LH} (h : Q (.exit aa) e F L) : inBlock id Q (.exit aa) e F L := by
  simp only [inBlock]; rw [if_neg (Nat.ne_of_beq_eq_false ab)]; exact h
theorem Ma {Fe : Fence} {n : Nat} {c : Code} {R : Exit → Act → World → Prop} {σ : Type} (I : σ → Act → World → Prop) (μ : σ → Nat) (s0 : σ) {a : Act} {w : World} (aj : I s0 a w)
    (round : ∀ s a w, I s a w → c.wpIn Fe n P (Exit.then (fun a' w' => ∃ s', I s' a' w' ∧ μ s' < μ s) R) a w) : (Code.loop c).wpIn Fe n P R a w := by
  intro b k cs aq hb hr
  have key : ∀ j s a w, μ s = j → I s a w →
      ∃ e a' w', R e a' w' ∧ ArrivesIn (Machine.fenced P Fe) P (lone (b.atR a (.code c :: .inLoop c :: k)) cs w) b k cs e a' w' := by
    intro j
    induction j using Nat.strongRecOn with
    | _ j ih =>
      intro s a w hn hI
      obtain ⟨e, ab, ad, hq, aa⟩ := round s a w hI b (.inLoop c :: k) cs aq hb hr
      cases e with
      | normal =>
        obtain ⟨s', ah, ar⟩ := hq
        obtain ⟨ak, al, ao, ai, ae⟩ := ih (μ s') (hn ▸ ar) s' ab ad rfl ah
        exact ⟨ak, al, ao, ai, .of_steps (StepsIn.trans aa (.one (fenced_calm hb hr rfl) stepR_inLoop)) ae⟩
      | exit id => exact ⟨_, ab, ad, hq, .pass (x := .inLoop c) rfl (fun _ _ => .inl (by simp)) aa⟩
      | goto l => exact ⟨_, ab, ad, hq, .pass (x := .inLoop c) rfl (fun _ _ => .inl (by simp)) aa⟩
      | ret => exact ⟨_, ab, ad, hq, .pass (x := .inLoop c) rfl (fun _ _ => .inl (by simp)) aa⟩
      | panic ch => exact ⟨_, ab, ad, hq, .pass (x := .inLoop c) rfl (fun _ _ => .inl (by simp)) aa⟩
      | outgrown => exact ⟨_, ab, ad, hq, .pass (x := .inLoop c) rfl (fun _ _ => .inl (by simp)) aa⟩
  obtain ⟨e, a', w', hq, aa⟩ := key _ s0 a w rfl aj
  exact ⟨e, a', w', hq, .of_steps (.one (fenced_calm hb hr rfl) stepR_loop) aa⟩
theorem Aq {id : Nat} {l : List Oper} (h : Ct P N r K l.toArray (Q .normal) l e F L) : Gg P N r K (.region id l.toArray false) Q e F L := fun M a w ha hs =>
  wpIn_region_lit (On (h M a w ha hs) (by rintro _ a w ⟨rfl, M, e, F, L, h1, h2, h3⟩; exact ⟨M, e, F, L, h1, h2, h3⟩))
end
end Go.SH
