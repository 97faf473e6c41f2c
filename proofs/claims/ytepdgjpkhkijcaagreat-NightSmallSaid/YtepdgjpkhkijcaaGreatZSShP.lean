/- The calculus, part P: labels, arrays that are compared, keys that are structs. -/
import Derived.Test.YtepdgjpkhkijcaaGreatZSShO
import Derived.ChangeKeysEq
import Derived.WideKeyRuns
import Derived.Scope
namespace Go.SH
open Go.PL
section
variable {P : Program} {N : Nat} {r : Option Nat} {K : Ctx} {Q : GK} {e : Env} {F : FS} {L : LH}
def noGoto (Q : GK) : GK
  | .goto _, _, _, _ => False
  | .outgrown, _, _, _ => False
  | .panic _, _, _, _ => False
  | ex, e, F, L => Q ex e F L
theorem noGoto_ret (h : Q .ret e F L) : noGoto Q .ret e F L := h
theorem PV {l : Nat} (h : Q .normal e F L) : EO P N r K (.label l) Q e F L := fun _ _ _ ha hs => wpIn_label ⟨_, e, F, L, ha, hs, h⟩
theorem PT {c : Code} (h : EO P N none K c (noGoto Q) e F L) : EO P N none K (.scope c) Q e F L := fun M a w ha hs => by
  intro b k cs ab hb hr
  obtain ⟨ex, a', w', ⟨M', e', F', L', h1, h2, h3⟩, a6⟩ := h M a w ha hs b (.inScope c :: k) cs ab hb hr
  have hn : b.roundOf = none := ab
  have h0 : ∀ (a : Act) (w : World) (it : List Item), lone (b.atR a it) cs w = lone (b.at a it) cs w := fun a w it => by rw [Frame.atR_of_none hn]
  have aa : StepsIn (Machine.fenced P (GQ none)) P (lone (b.atR a (.code (.scope c) :: k)) cs w) (lone (b.atR a (.code c :: .inScope c :: k)) cs w) :=
    .one (fenced_calm hb hr rfl) (by rw [h0, h0]; exact step_scope)
  cases ex with
  | normal =>
    refine ⟨.normal, a', w', ⟨M', e', F', L', h1, h2, h3⟩, .of_steps aa (StepsIn.trans a6 (.one (fenced_calm hb hr rfl) (by rw [h0, h0]; exact step_inScope)))⟩
  | exit id =>
    refine ⟨.exit id, a', w', ⟨M', e', F', L', h1, h2, h3⟩, .of_steps aa ⟨fun k' hk => a6.1 k' (by simpa [exitTo] using hk), fun hq => by simp [hn] at hq⟩⟩
  | ret => exact ⟨.ret, a', w', ⟨M', e', F', L', h1, h2, h3⟩, .of_steps aa ⟨fun hq => a6.1 hq, fun hq => by simp [hn] at hq⟩⟩
  | goto l => exact h3.elim
  | panic c => exact h3.elim
  | outgrown => exact h3.elim
end
theorem OF {P : Program} {α : Type} {w : World} {e : TypeId} {f : α → List Value} {g : α → Value} (hf : ∀ x, f x = [g x]) (a6 : ∀ w, (isAgg e).run P w = .ok false w) {xs : List α} {i : Nat} {x : α} (h : xs[i]? = some x) : (part e (arr f xs) (i * 1)).run P w = .ok (g x) w := by
  have aa : xs.flatMap f = xs.map g := by
    clear h
    induction xs with
    | nil => rfl
    | cons y ys ih => rw [List.flatMap_cons, List.map_cons, ih, hf]; rfl
  have : (arr f xs)[i * 1]? = some (g x) := by simp [arr, aa, h]
  unfold part
  simp only [Sem.run_bind, a6, Result.andThen_ok, Bool.false_eq_true, if_false, this]
  rfl
theorem KY {P : Program} {α : Type} [DecidableEq α] {e : TypeId} {f : α → List Value} {g : α → Value} (hf : ∀ x, f x = [g x]) (a6 : ∀ w, (isAgg e).run P w = .ok false w) (hc : P.cellsOf e = 1) {d : Nat} (heq : ∀ x y w, (Op.equalIn d e (g x) (g y)).run P w = .ok (decide (x = y)) w) {xs ys : List α} (hl : xs.length = ys.length) (w : World) :
    ∀ n k, n + k = xs.length → (Op.eqItems d e (P.cellsOf e) (arr f xs) (arr f ys) (List.range' k n)).run P w = .ok (decide (xs.drop k = ys.drop k)) w
  | 0, k, h => by
    rw [List.drop_eq_nil_of_le (by omega), List.drop_eq_nil_of_le (by omega)]
    simp [Op.eqItems]
  | n + 1, k, h => by
    have hx : xs[k]? = some xs[k] := by simp [show k < xs.length by omega]
    have hy : ys[k]? = some ys[k] := by simp [show k < ys.length by omega]
    rw [List.drop_eq_getElem_cons (show k < xs.length by omega), List.drop_eq_getElem_cons (show k < ys.length by omega)]
    rw [List.range'_succ, hc]
    simp only [Op.eqItems, Sem.run_bind, OF hf a6 hx, OF hf a6 hy, Result.andThen_ok, heq]
    by_cases he : xs[k] = ys[k]
    · have ih := KY hf a6 hc heq hl w n (k + 1) (by omega)
      rw [hc] at ih
      simp only [he, decide_true, Bool.not_true, Bool.false_eq_true, if_false, ih, List.cons.injEq, true_and]
    · have aa : ¬ List.drop k xs = List.drop k ys := fun hh => by
        rw [List.drop_eq_getElem_cons (show k < xs.length by omega), List.drop_eq_getElem_cons (show k < ys.length by omega)] at hh
        exact he (List.cons.inj hh).1
      simp [he, aa]
theorem Q5 {P : Program} {α : Type} [DecidableEq α] {t e : TypeId} {n : Nat} {i : TypeInfo} (hu : P.underlying t = some (.array n e)) (hi : P.info? e = some i) {f : α → List Value} {g : α → Value} (hf : ∀ x, f x = [g x]) (a6 : ∀ w, (isAgg e).run P w = .ok false w) (hc : P.cellsOf e = 1) (heq : ∀ x y w, (Op.equalIn 9999 e (g x) (g y)).run P w = .ok (decide (x = y)) w)
    {xs ys : List α} (hx : xs.length = n) (hy : ys.length = n) (w : World) : (binOp .eql t (.agg (arr f xs)) (.agg (arr f ys))).run P w = .ok (.bool (decide (xs = ys))) w := by
  have h := KY hf a6 hc heq (hx.trans hy.symm) w n 0 (by omega)
  rw [← List.range_eq_range', ← run_equalIn_array w 9999 _ _ hu hi] at h
  simp only [binOp]
  have h2 : (Op.equal t (.agg (arr f xs)) (.agg (arr f ys))).run P w = .ok (decide (xs = ys)) w := by
    rw [List.drop_zero, List.drop_zero] at h; exact h
  simp [h2]
theorem RR {P : Program} {e : TypeId} {d : Nat} (h : P.underlying e = some .bool) (x y : Bool) (w : World) : (Op.equalIn (d + 1) e (.bool x) (.bool y)).run P w = .ok (decide (x = y)) w := by
  rw [run_equalIn_bool w d e x y h]; cases x <;> cases y <;> rfl
theorem Pw {P : Program} {N : Nat} {K : Ctx} {fn : Func} {R : FS → LH → Value → Prop} {e : Env} {F : FS} {L L2 : LH} {ex : Exit} (hex : ex = .ret ∨ ex = .normal) (hr : fn.results = #[]) (hs : L2.Sublist L) (h : R F L2 (.tuple #[])) : Ny N K P fn R ex e F L :=
  ⟨hex, _, L2, ⟨L, .refl _, hs⟩, fun M a w ha hs => by simp [results, hr], h⟩
theorem Dr {α : Type} {xs pre : List α} {x : α} {a6 tl : List α} (h1 : xs = pre ++ tl) (h2 : xs = pre ++ x :: a6) : tl = x :: a6 := List.append_cancel_left (h1.symm.trans h2)
theorem D8 {α : Type} {xs tl : List α} (h : xs = xs ++ tl) : [] = tl := by
  have := congrArg List.length h
  rw [List.length_append] at this
  exact (List.eq_nil_of_length_eq_zero (by omega)).symm
end Go.SH
