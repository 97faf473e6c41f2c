/- The calculus, part P: labels, arrays that are compared, keys that are structs. -/
import Derived.Test.YtdhookifhfkcpaaGreatZBShO
import Derived.ChangeKeysEq
import Derived.WideKeyRuns
import Derived.Scope
namespace Go.SH
open Go.PL
section
variable {P : Program} {N : Nat} {r : Option Nat} {K : Ctx} {Q : GI} {e : Env} {F : FS} {L : LH}
def noGoto (Q : GI) : GI
  | .goto _, _, _, _ => False
  | .outgrown, _, _, _ => False
  | .panic _, _, _, _ => False
  | ex, e, F, L => Q ex e F L
theorem noGoto_ret (h : Q .ret e F L) : noGoto Q .ret e F L := h
theorem QF {l : Nat} (h : Q .normal e F L) : Gg P N r K (.label l) Q e F L := fun _ _ _ ha hs => wpIn_label ⟨_, e, F, L, ha, hs, h⟩
theorem QE {c : Code} (h : Gg P N none K c (noGoto Q) e F L) : Gg P N none K (.scope c) Q e F L := fun M a w ha hs => by
  intro b k cs ad hb hr
  obtain ⟨ex, a', w', ⟨M', e', F', L', h1, h2, h3⟩, aa⟩ := h M a w ha hs b (.inScope c :: k) cs ad hb hr
  have hn : b.roundOf = none := ad
  have h0 : ∀ (a : Act) (w : World) (it : List Item), lone (b.atR a it) cs w = lone (b.at a it) cs w := fun a w it => by rw [Frame.atR_of_none hn]
  have ab : StepsIn (Machine.fenced P (GW none)) P (lone (b.atR a (.code (.scope c) :: k)) cs w) (lone (b.atR a (.code c :: .inScope c :: k)) cs w) :=
    .one (fenced_calm hb hr rfl) (by rw [h0, h0]; exact step_scope)
  cases ex with
  | normal =>
    refine ⟨.normal, a', w', ⟨M', e', F', L', h1, h2, h3⟩, .of_steps ab (StepsIn.trans aa (.one (fenced_calm hb hr rfl) (by rw [h0, h0]; exact step_inScope)))⟩
  | exit id =>
    refine ⟨.exit id, a', w', ⟨M', e', F', L', h1, h2, h3⟩, .of_steps ab ⟨fun k' hk => aa.1 k' (by simpa [exitTo] using hk), fun hq => by simp [hn] at hq⟩⟩
  | ret => exact ⟨.ret, a', w', ⟨M', e', F', L', h1, h2, h3⟩, .of_steps ab ⟨fun hq => aa.1 hq, fun hq => by simp [hn] at hq⟩⟩
  | goto l => exact h3.elim
  | panic c => exact h3.elim
  | outgrown => exact h3.elim
end
theorem QW {P : Program} {α : Type} {w : World} {e : TypeId} {f : α → List Value} {g : α → Value} (hf : ∀ x, f x = [g x]) (aa : ∀ w, (isAgg e).run P w = .ok false w) {xs : List α} {i : Nat} {x : α} (h : xs[i]? = some x) : (part e (arr f xs) (i * 1)).run P w = .ok (g x) w := by
  have ab : xs.flatMap f = xs.map g := by
    clear h
    induction xs with
    | nil => rfl
    | cons y ys ih => rw [List.flatMap_cons, List.map_cons, ih, hf]; rfl
  have : (arr f xs)[i * 1]? = some (g x) := by simp [arr, ab, h]
  unfold part
  simp only [Sem.run_bind, aa, Result.andThen_ok, Bool.false_eq_true, if_false, this]
  rfl
theorem R2 {P : Program} {α : Type} {t e : TypeId} {n : Nat} (hu : P.underlying t = some (.array n e)) {f : α → List Value} {g : α → Value} (hf : ∀ x, f x = [g x]) (aa : ∀ w, (isAgg e).run P w = .ok false w) (hs : ∀ w, (sizeOf e).run P w = .ok 1 w) {xs : List α} (hn : xs.length = n) {i : Int} (g0 : 0 ≤ i ∧ i < (xs.length : Int)) {x : α} (hx : xs[i.toNat]? = some x) :
    ∀ w, (Instr.index t (.agg (arr f xs)) (.int .i64 i)).run P w = .ok (g x) w := fun w => by
  have hp := QW (w := w) hf aa hx
  rw [hn] at g0
  rw [Nat.mul_one] at hp
  simp [Instr.index, asIntOf, run_underlying hu, g0, hs, hp]
theorem OT {P : Program} {T : TypeId} {κ : Type} [DecidableEq κ] {ek : κ → Value} (hw : (match P.underlying T with | some (.array _ _) | some (.struct _) => true | _ => false) = true)
    (he : ∀ x y w, (Op.equal T (ek x) (ek y)).run P w = .ok (decide (x = y)) w) (hc : ∀ b k w, (Instr.checkKey b 10000 T (ek k)).run P w = .ok () w) (hs : ∀ k, Instr.sameBits 10000 (ek k) (ek k) = true) : Od P T ek := by
  refine ⟨hc, fun k es ks h w => ?_, hs⟩
  rw [run_findKey_eq w hw]
  have key : ∀ (es : List MapEntry) (ks : List κ) (i : Nat), es.map (·.key) = ks.map ek → (Instr.findAsking T (ek k) es i).run P w = .ok ((ks.findIdx? fun k' => k' = k).map fun j => (i + j, ((es[j]?).map (·.val)).getD undef)) w := by
    intro es
    induction es with
    | nil => intro ks i h; have : ks = [] := by simpa using h.symm
             subst this; rfl
    | cons e es ih =>
      intro ks i h
      cases ks with
      | nil => simp at h
      | cons k1 ks =>
        simp only [List.map_cons, List.cons.injEq] at h
        obtain ⟨h1, h2⟩ := h
        simp only [Instr.findAsking, Sem.run_bind, h1, he, Result.andThen_ok]
        by_cases hk : k1 = k
        · subst hk; simp [List.findIdx?_cons]
        · have aa : ¬ k = k1 := fun e => hk e.symm
          simp only [aa, decide_false, Bool.false_eq_true, if_false]
          rw [ih ks (i + 1) h2]
          simp [List.findIdx?_cons, hk, Option.map_map, Function.comp_def, Nat.add_assoc, Nat.add_comm 1]
  have := key es ks 0 h
  simpa using this
theorem NQ {P : Program} {N : Nat} {K : Ctx} {fn : Func} {R : FS → LH → Value → Prop} {e : Env} {F : FS} {L L2 : LH} {ex : Exit} (hex : ex = .ret ∨ ex = .normal) (hr : fn.results = #[]) (hs : L2.Sublist L) (h : R F L2 (.tuple #[])) : Ny N K P fn R ex e F L :=
  ⟨hex, _, L2, ⟨L, .refl _, hs⟩, fun M a w ha hs => by simp [results, hr], h⟩
theorem OD {α : Type} {xs pre : List α} {x : α} {aa tl : List α} (h1 : xs = pre ++ tl) (h2 : xs = pre ++ x :: aa) : tl = x :: aa := List.append_cancel_left (h1.symm.trans h2)
theorem PH {α : Type} {xs tl : List α} (h : xs = xs ++ tl) : [] = tl := by
  have := congrArg List.length h
  rw [List.length_append] at this
  exact (List.eq_nil_of_length_eq_zero (by omega)).symm
end Go.SH
