/- The calculus, part Z: regions that draw their order, walked in all orders. -/
import Derived.Test.YtkfbbjiniapooaaGreatZSShY
namespace Go.SH
section
variable {P : Program} {N : Nat} {r : Option Nat} {K : Ctx} {ops : Array Oper}
def Ys (P : Program) (N : Nat) (r : Option Nat) (K : Ctx) (ops : Array Oper) (Q : Env → FS → LH → Prop) : Nat → Array Bool → Env → FS → LH → Prop
  | 0, A, e, F, L => Region.ready .any ops A = [] ∧ Q e F L
  | f + 1, A, e, F, L => (Region.ready .any ops A = [] → Q e F L) ∧ ∀ i ∈ Region.ready .any ops A, ∃ o, ops[i]? = some o ∧ C7 P N r K ops (Ys P N r K ops Q f (A.setIfInBounds i true)) [o] e F L
theorem NW {Qp : HE} : ∀ (f : Nat) (A : Array Bool) (e : Env) (F : FS) (L : LH), Ys P N r K ops (fun e F L => Qp .normal e F L) f A e F L → ∀ M a w, Ag N M e a → St K M F L w → wpAnyIn (HO r) 0 P .any ops (lift N K Qp) f A a w
  | 0, _, e, F, L, h, M, _, _, ha, hs => ⟨h.1, M, e, F, L, ha, hs, h.2⟩
  | f + 1, A, e, F, L, h, M, a, w, ha, hs => ⟨fun h0 => ⟨M, e, F, L, ha, hs, h.1 h0⟩, fun i hi => by
      obtain ⟨o, ho, hw⟩ := h.2 i hi
      have hw := hw M a w ha hs
      unfold wpOpIn
      simp only [ho]
      unfold wpListIn at hw
      split at hw
      · rename_i aa
        rw [if_pos aa]
        refine LP (fun a' w' hn _ => ?_) (fun _ _ _ hq => hq.1) hw
        obtain ⟨_, M', e', F', L', h1, h2, h3⟩ := hn
        exact NW f _ _ _ _ h3 M' a' w' h1 h2
      · rename_i aa
        rw [if_neg aa]
        obtain ⟨_, M', e', F', L', h1, h2, h3⟩ := hw.2
        exact ⟨hw.1, NW f _ _ _ _ h3 M' _ w h1 h2⟩⟩
theorem To {Qp : HE} {id : Nat} {l : List Oper} {e : Env} {F : FS} {L : LH} (hm : P.follows .mixedOrders = true)
    (h : ∀ (T : Nat → Array Bool → Env → FS → LH → Prop), (∀ {f : Nat} {A : Array Bool} {e : Env} {F : FS} {L : LH} (rs : List Nat), Region.ready .any l.toArray A = rs → rs ≠ [] → (∀ i ∈ rs, ∃ o, l[i]? = some o ∧ C7 P N r K l.toArray (T f (A.setIfInBounds i true)) [o] e F L) → T (f + 1) A e F L) →
      (∀ {f : Nat} {A : Array Bool} {e : Env} {F : FS} {L : LH}, Region.ready .any l.toArray A = [] → Qp .normal e F L → T f A e F L) → T l.length (Array.replicate l.length false) e F L) :
    Gh P N r K (.region id l.toArray true) Qp e F L := fun M a w ha hs => by
  refine wpIn_region_any hm ?_
  have h1 := h (Ys P N r K l.toArray fun e F L => Qp .normal e F L) (fun {f A e F L} rs hr aa hh => ⟨fun h0 => absurd (hr ▸ h0) aa, fun i hi => by
    obtain ⟨o, ho, h2⟩ := hh i (hr ▸ hi)
    exact ⟨o, by simpa using ho, h2⟩⟩) (fun {f A e F L} hr hq => by
    cases f with
    | zero => exact ⟨hr, hq⟩
    | succ f => exact ⟨fun _ => hq, fun i hi => by rw [hr] at hi; cases hi⟩)
  have h2 := NW (Qp := Qp) _ _ _ _ _ h1 M a { w with drawn := w.drawn + 1 } ha hs.drew
  simpa using h2
end
section
variable {P : Program} {N : Nat} {r d : Option Nat} {K : Ctx} {ops : Array Oper} {Q : Env → FS → LH → Prop} {rest : List Oper} {e : Env} {F : FS} {L : LH} {ty : TypeId} {pos : String} {after : Array Edge}
theorem Nq {T : TypeId} {x y : Operand} {z : Obj} {val : Nat → Value} (hd : Dq N d = true) (hm : Uh P N ⟨d, .makeSlice T x y, ty, pos, after, none⟩ e z val)
    (k : ∀ b, K.w0.heap.size ≤ b → C7 P N r K ops Q rest (e.put d (val b)) F ((b, z) :: L)) : C7 P N r K ops Q (⟨d, .makeSlice T x y, ty, pos, after, none⟩ :: rest) e F L :=
  Hg hd (by intros; simp) fun M a w ha hs => by
    obtain ⟨h1, h2⟩ := hs.push z
    exact ⟨_, _, _, _, hm M a w ha, h1, k _ h2⟩
end
end Go.SH
