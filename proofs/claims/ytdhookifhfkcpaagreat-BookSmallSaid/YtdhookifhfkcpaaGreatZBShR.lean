/- The calculus, part R: how what is passed in is read, and how a law's statement follows from its walk. -/
import Derived.Test.YtdhookifhfkcpaaGreatZBShQ
import Derived.Carry
import Derived.RowKit
import Derived.WalkKit
import Derived.ProofKit
import Derived.ChangeSame
namespace Go.SH
open Go.PL Go.ChangeShapes Go.RowKit Go.WideShapes
def FW (w : World) : FS := fun b => w.heap[b]?
theorem Mc {H : Type} {enc : TypeId × Value → H} {P : Program} (hl : laidOutB P = true) {W W' : World} (hb : Below W.heap.size W W') {sp : Nat → Bool} :
    ∀ {ts : List TypeId} {vs : List Value} {ds : List (DataW H)} {ps : List MemPlace}, (∀ t ∈ ts, P.readableRec t = true ∧ t < P.types.size) → DataW.TrodAll enc P W 0 (fun _ => true) true ts vs ds ps → (∀ p ∈ ps, p.block < W.heap.size) → (∀ p ∈ ps, sp p.block = true) → DataW.TrodAll enc P W' 0 sp true ts vs ds ps
  | [], [], [], _, _, h, _, _ => h
  | t :: ts, v :: vs, d :: ds, _, ht, ⟨p, q, h1, h2, e⟩, aa, ab => by
    subst e
    refine ⟨p, q, WideElems.Trod_stays hl (ht t (by simp)).1 (ht t (by simp)).2 h1 (fun x hx => hb.same (aa x (by simp [hx]))) (fun x hx => ab x (by simp [hx])), ?_, rfl⟩
    exact Mc hl hb (fun t' h' => ht t' (by simp [h'])) h2 (fun x hx => aa x (by simp [hx])) (fun x hx => ab x (by simp [hx]))
theorem Ri {H : Type} {enc : TypeId × Value → H} {P : Program} {fn : Func} {s : ChangeSpec} {f : FuncId} {W : World} {args : Array Value} {ds gs : List (DataW H)} {before : List MemPlace} {tb : TypeId} (hl : laidOutB P = true) (aa : s.vars = []) (ai : fn.resultTypes = #[tb]) (aj : P.underlying tb = some .bool)
    (ak : ∀ t ∈ fn.params.toList, P.readableRec t = true ∧ t < P.types.size) (hW : DataW.Whole enc P fn.params.toList s.vars false W args.toList ds gs before)
    (ad : (s.fn H (ds ++ gs)).results = [.lit (.bool true)]) (ab : (s.fn H (ds ++ gs)).args = ds) (ae : (s.fn H (ds ++ gs)).vars = []) (al : Bp P f args (FW W) (.bool true)) :
    Calls P f args W fun e W' => ∃ v, e = .returned v ∧ s.post enc P fn false true false false W args v W' := by
  refine (al W (fun b o h => h) ⟨by simp, fun p hp => by simp at hp, fun p hp => by simp at hp⟩).mono ?_
  rintro e W' ⟨v, F', L', rfl, hk, _, _, _, _, rfl⟩
  refine ⟨_, rfl, ?_⟩
  have hb : Below W.heap.size W W' := ⟨hk.os, hk.tape, hk.output, hk.size, fun k ao => hk.block k ao (by simp [keys])⟩
  have ah := DataW.Whole.lt hW
  have aq := hW
  obtain ⟨p, q, hA, hV, ar, hz, hn⟩ := hW
  rw [aa] at hV
  obtain ⟨rfl, rfl⟩ := trodVars_none hV
  subst ar
  simp only [List.append_nil] at ah
  refine ⟨_, _, _, [], p, [], aq, ?_, ?_, ?_, hb.frame _, fun h => by cases h⟩
  · rw [ad, ai]
    exact trodAll_mk1 (shut_bool aj true)
  · rw [ab]
    exact Mc hl hb ak hA ah (fun x hx => by simpa using ah x hx)
  · rw [aa, ae]
    rfl
end Go.SH
