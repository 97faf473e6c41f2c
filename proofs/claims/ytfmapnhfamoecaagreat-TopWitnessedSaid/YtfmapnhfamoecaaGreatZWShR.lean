/- The calculus, part R: how what is passed in is read, and how a law's statement follows from its walk. -/
import Derived.Test.YtfmapnhfamoecaaGreatZWShQ
import Derived.Carry
import Derived.RowKit
import Derived.WalkKit
import Derived.ProofKit
import Derived.ChangeSame
namespace Go.SH
open Go.PL Go.ChangeShapes Go.RowKit Go.WideShapes
def FW (w : World) : FS := fun b => w.heap[b]?
def TD (P : Program) (w : World) (t : TypeId) {α : Type} (R : IN α) (Ok : α → Prop) : Prop :=
  ∀ {H : Type} {enc : TypeId × Value → H} {sp : Nat → Bool} {held : Bool} (fuel : Nat) (cs : List Value) (x : DataW H × List MemPlace), DataW.trod enc P w 0 sp held fuel t cs = some x → ∃ y, R (FW w) cs y ∧ Ok y
theorem Rd {P : Program} {w : World} {t : TypeId} {k : IntKind} (ht : P.underlying t = some (.int k)) : TD P w t (iE k) (fun n => (Lit.int k n).wf = true) := fun fuel cs x h => by
  obtain ⟨n, rfl, _, hw⟩ := DataW.trod_int ht h
  exact ⟨n, rfl, hw⟩
theorem T3 {w : World} {a : Addr} {v : Value} (h : w.cell? a = some v) : a.spot = none ∧ ∃ c E m, w.heap[a.block]? = some (.cells c E m) ∧ c[a.off]? = some v := by
  unfold World.cell? at h
  split at h
  · rename_i c E m hh
    split at h
    · cases h
    · rename_i hs
      exact ⟨by simpa using hs, c, E, m, hh, h⟩
  · cases h
theorem Sz {P : Program} {w : World} {t e : TypeId} {sz : Nat} {α : Type} {R : IN α} {Ok : α → Prop} (ht : P.underlying t = some (.slice e)) (hc : P.cellsOf e = sz) (hz : 0 < sz) (hR : DP sz R) (he : TD P w e R Ok) :
    TD P w t (BC sz R) (fun xs => ∀ x ∈ xs, Ok x) := fun fuel cs x h => by
  rcases DataW.trod_slice ht h with ⟨rfl, _⟩ | ⟨a, len, cap, elems, rest, n, _, rfl, _, _, hl, hm, hlen, ah, _, _⟩
  · exact ⟨[], ⟨none, 0, rfl, As.nil _ _ _⟩, fun x hx => by simp at hx⟩
  · subst hc
    generalize hs : P.cellsOf e = sz at *
    -- each element
    have each : ∀ i, i < len → ∃ vs x, (w.cells? 0 (a.add (i * sz)) sz) = some vs ∧ R (FW w) vs x ∧ Ok x := fun i hi => by
      have h1 := ah i hi
      have h2 : i < elems.length := by omega
      rw [List.getElem?_eq_getElem h2, Option.bind_eq_some_iff] at h1
      obtain ⟨vs, h3, h4⟩ := h1
      obtain ⟨x, h5, h6⟩ := he _ _ _ h4
      exact ⟨vs, x, h3, h5, h6⟩
    have lists : ∀ k, k ≤ len → ∃ (vss : List (List Value)) (xs : List α), xs.length = k ∧ EU (R (FW w)) vss xs ∧ (∀ x ∈ xs, Ok x) ∧ ∀ i, i < k → ∃ vs, vss[i]? = some vs ∧ w.cells? 0 (a.add (i * sz)) sz = some vs := by
      intro k
      induction k with
      | zero => exact fun _ => ⟨[], [], rfl, .nil, fun x hx => by simp at hx, fun i hi => by omega⟩
      | succ k ih =>
        intro hk
        obtain ⟨vss, xs, h1, h2, h3, h4⟩ := ih (by omega)
        obtain ⟨vs, x, h5, h6, h7⟩ := each k (by omega)
        refine ⟨vss ++ [vs], xs ++ [x], by simp [h1], h2.append (.cons h6 .nil), fun y hy => ?_, fun i hi => ?_⟩
        · rcases List.mem_append.1 hy with hy | hy
          · exact h3 y hy
          · simp at hy; subst hy; exact h7
        · have ai : vss.length = k := by rw [h2.length, h1]
          by_cases aj : i < k
          · obtain ⟨us, h8, h9⟩ := h4 i aj
            exact ⟨us, by rw [List.getElem?_append_left (by omega)]; exact h8, h9⟩
          · obtain rfl : i = k := by omega
            exact ⟨vs, by rw [List.getElem?_append_right (by omega), ai]; simp, h5⟩
    obtain ⟨vss, xs, h1, h2, h3, h4⟩ := lists len (Nat.le_refl _)
    have aa := h2.lens hR
    have ak : vss.flatten.length = len * sz := by rw [E0 aa, h2.length, h1]
    refine ⟨xs, ⟨some a, cap, by rw [h1], vss, h2, ?_⟩, h3⟩
    refine ⟨by rw [h1]; exact ak, by rw [h1]; exact hl, hm, h2.UL hR, ?_⟩
    by_cases h0 : len = 0
    · exact .inl (by rw [h1]; exact h0)
    · refine .inr ?_
      -- every cell
      have cell : ∀ i j, i < len → j < sz → ∃ v, vss.flatten[i * sz + j]? = some v ∧ w.cell? ((a.add (i * sz)).add j) = some v := fun i j hi hj => by
        obtain ⟨vs, h5, h6⟩ := h4 i hi
        obtain ⟨_, h7, h8⟩ := World.cells?_some h6
        have h9 := h8 j hj
        have ae : j < vs.length := by omega
        rw [List.getElem?_eq_getElem ae] at h9
        exact ⟨_, by rw [Jm aa h5 j hj]; exact List.getElem?_eq_getElem ae, h9⟩
      obtain ⟨v0, _, af⟩ := cell 0 0 (by omega) hz
      have al : (a.add (0 * sz)).add 0 = a := by simp [Addr.add]
      rw [al] at af
      obtain ⟨ad, c, E, m, hh, _⟩ := T3 af
      have ao : ∀ i j, ((a.add (i * sz)).add j) = ⟨a.block, a.off + (i * sz + j), none⟩ := fun i j => by
        obtain ⟨b, o, s⟩ := a
        simp only at ad; subst ad
        simp only [Addr.add]
        split <;> split <;> simp_all <;> omega
      have ab : ∀ k, k < len * sz → c[a.off + k]? = vss.flatten[k]? := fun k hk => by
        have hi : k / sz < len := Nat.div_lt_of_lt_mul (by rw [Nat.mul_comm]; exact hk)
        obtain ⟨v, h5, h6⟩ := cell (k / sz) (k % sz) hi (Nat.mod_lt _ hz)
        rw [ao] at h6
        have aq : k / sz * sz + k % sz = k := by rw [Nat.mul_comm]; exact Nat.div_add_mod k sz
        rw [aq] at h5 h6
        obtain ⟨_, c', E', m', h7, h8⟩ := T3 h6
        simp only at h7 h8
        rw [hh] at h7
        injection h7 with h7
        injection h7 with e1 e2 e3
        subst e1
        rw [h8, h5]
      have ar : len * sz - 1 < len * sz := by have := Nat.mul_pos (Nat.pos_of_ne_zero h0) hz; omega
      refine ⟨a.block, a.off, c, E, m, ?_, hh, ?_, ?_⟩
      · obtain ⟨b, o, s⟩ := a
        simp only at ad; subst ad; rfl
      · rw [h1]
        have h5 := ab _ ar
        rw [List.getElem?_eq_getElem (by omega)] at h5
        have := (Array.getElem?_eq_some_iff.1 h5).1
        omega
      · rw [h1]; exact ab
theorem S6 {P : Program} {w : World} {t : TypeId} {α : Type} {R : IN α} {Ok : α → Prop} {u : TypeDesc} (hR : TD P w t R Ok) (hu : P.underlying t = some u) (ha : (match u with | .struct _ | .array _ _ => true | _ => false) = false) {r : Reach} {b0 : Nat} {v : Value} (aa : Value.okWide P w r b0 t v)
    {H : Type} {enc : TypeId × Value → H} {sp : Nat → Bool} {held : Bool} {d : DataW H} {ps : List MemPlace} (h : DataW.Trod enc P w 0 sp held t v d ps) : ∃ y, R (FW w) [v] y ∧ Ok y := by
  obtain ⟨fuel, h⟩ := h
  have hv : v.cells.toList = [v] := by
    cases v with
    | agg cs =>
      exfalso
      unfold Value.okWide at aa
      rw [hu] at aa
      cases u <;> simp_all [Cell.okWide, Cell.ok]
    | _ => rfl
  rw [hv] at h
  exact hR _ _ _ h
theorem Nc {H : Type} {enc : TypeId × Value → H} {P : Program} (hl : laidOutB P = true) {W W' : World} (hb : Below W.heap.size W W') {sp : Nat → Bool} :
    ∀ {ts : List TypeId} {vs : List Value} {ds : List (DataW H)} {ps : List MemPlace}, (∀ t ∈ ts, P.readableRec t = true ∧ t < P.types.size) → DataW.TrodAll enc P W 0 (fun _ => true) true ts vs ds ps → (∀ p ∈ ps, p.block < W.heap.size) → (∀ p ∈ ps, sp p.block = true) → DataW.TrodAll enc P W' 0 sp true ts vs ds ps
  | [], [], [], _, _, h, _, _ => h
  | t :: ts, v :: vs, d :: ds, _, ht, ⟨p, q, h1, h2, e⟩, aa, ab => by
    subst e
    refine ⟨p, q, WideElems.Trod_stays hl (ht t (by simp)).1 (ht t (by simp)).2 h1 (fun x hx => hb.same (aa x (by simp [hx]))) (fun x hx => ab x (by simp [hx])), ?_, rfl⟩
    exact Nc hl hb (fun t' h' => ht t' (by simp [h'])) h2 (fun x hx => aa x (by simp [hx])) (fun x hx => ab x (by simp [hx]))
theorem Vw {H : Type} {enc : TypeId × Value → H} {P : Program} {fn : Func} {s : ChangeSpec} {f : FuncId} {W : World} {args : Array Value} {ds gs : List (DataW H)} {before : List MemPlace} {tb : TypeId} (hl : laidOutB P = true) (aa : s.vars = []) (ah : fn.resultTypes = #[tb]) (ai : P.underlying tb = some .bool)
    (aj : ∀ t ∈ fn.params.toList, P.readableRec t = true ∧ t < P.types.size) (hW : DataW.Whole enc P fn.params.toList s.vars false W args.toList ds gs before)
    (ad : (s.fn H (ds ++ gs)).results = [.lit (.bool true)]) (ab : (s.fn H (ds ++ gs)).args = ds) (ae : (s.fn H (ds ++ gs)).vars = []) (ak : Bl P f args (FW W) (.bool true)) :
    Calls P f args W fun e W' => ∃ v, e = .returned v ∧ s.post enc P fn false true false false W args v W' := by
  refine (ak W (fun b o h => h) ⟨by simp, fun p hp => by simp at hp, fun p hp => by simp at hp⟩).mono ?_
  rintro e W' ⟨v, F', L', rfl, hk, _, _, _, _, rfl⟩
  refine ⟨_, rfl, ?_⟩
  have hb : Below W.heap.size W W' := ⟨hk.os, hk.tape, hk.output, hk.size, fun k al => hk.block k al (by simp [keys])⟩
  have af := DataW.Whole.lt hW
  have ao := hW
  obtain ⟨p, q, hA, hV, aq, hz, hn⟩ := hW
  rw [aa] at hV
  obtain ⟨rfl, rfl⟩ := trodVars_none hV
  subst aq
  simp only [List.append_nil] at af
  refine ⟨_, _, _, [], p, [], ao, ?_, ?_, ?_, hb.frame _, fun h => by cases h⟩
  · rw [ad, ah]
    exact trodAll_mk1 (shut_bool ai true)
  · rw [ab]
    exact Nc hl hb aj hA af (fun x hx => by simpa using af x hx)
  · rw [aa, ae]
    rfl
end Go.SH
