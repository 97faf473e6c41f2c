/- The calculus, part I: maps. -/
import Derived.Test.YtdhookifhfkcpaaGreatZBShH
import Derived.Test.YtdhookifhfkcpaaGreatZBPl
namespace Go.SH
open Go.PL
structure Od (P : Program) (T : TypeId) {κ : Type} [DecidableEq κ] (ek : κ → Value) : Prop where
  check : ∀ b k w, (Instr.checkKey b 10000 T (ek k)).run P w = .ok () w
  find : ∀ (k : κ) (es : List MapEntry) (ks : List κ), es.map (·.key) = ks.map ek → ∀ w, (Instr.findKey T (ek k) es).run P w = .ok ((ks.findIdx? fun k' => k' = k).map fun i => (i, ((es[i]?).map (·.val)).getD undef)) w
  same : ∀ k, Instr.sameBits 10000 (ek k) (ek k) = true
def N0 {κ δ : Type} (ek : κ → Value) (ed : δ → Value) (es : Array MapEntry) (m : List (κ × δ)) : Prop :=
  es.toList.map (·.key) = m.map (fun p => ek p.1) ∧ es.toList.map (·.val) = m.map (fun p => ed p.2)
theorem N0.nil {κ δ : Type} {ek : κ → Value} {ed : δ → Value} : N0 ek ed #[] [] := ⟨rfl, rfl⟩
theorem OK {κ δ : Type} [DecidableEq κ] (m : List (κ × δ)) (k : κ) : LU m k = ((m.map (·.1)).findIdx? fun k' => k' = k).bind fun i => (m[i]?).map (·.2) := by
  induction m with
  | nil => rfl
  | cons p m ih =>
    by_cases h : p.1 = k
    · simp [LU, List.findIdx?_cons, h]
    · have e1 : LU (p :: m) k = LU m k := by simp [LU, h]
      rw [e1, ih]
      simp only [List.map_cons, List.findIdx?_cons, h, decide_false, Bool.false_eq_true, if_false]
      cases ((m.map (·.1)).findIdx? fun k' => decide (k' = k)) <;> simp
theorem OP {κ δ : Type} [DecidableEq κ] (m : List (κ × δ)) (k : κ) (v : δ) : M4 m k v = match ((m.map (·.1)).findIdx? fun k' => k' = k) with | some i => m.set i (k, v) | none => m ++ [(k, v)] := by
  induction m with
  | nil => rfl
  | cons p m ih =>
    unfold M4
    by_cases h : p.1 = k
    · simp [List.findIdx?_cons, h]
    · rw [if_neg h, ih]
      simp only [List.map_cons, List.findIdx?_cons, h, decide_false, Bool.false_eq_true, if_false]
      cases ((m.map (·.1)).findIdx? fun k' => decide (k' = k)) <;> simp
def Og (F : FS) (L : LH) (b : Nat) (es : Array MapEntry) : Prop := ∃ cl, F b = some (.map es cl) ∨ (b, Obj.map es cl) ∈ L
theorem Og.own {F : FS} {L : LH} {b cl : Nat} {es : Array MapEntry} (i : Nat) (h : L[i]? = some (b, .map es cl)) : Og F L b es := ⟨cl, .inr (List.mem_of_getElem? h)⟩
theorem Og.frozen {F : FS} {L : LH} {b cl : Nat} {es : Array MapEntry} (h : F b = some (.map es cl)) : Og F L b es := ⟨cl, .inl h⟩
theorem Og.heap {K : Ctx} {M : List Nat} {F : FS} {L : LH} {w : World} (hs : St K M F L w) {b : Nat} {es : Array MapEntry} (h : Og F L b es) : ∃ cl, w.heap[b]? = some (.map es cl) := by
  obtain ⟨cl, h | h⟩ := h
  · exact ⟨cl, hs.MA _ _ h⟩
  · exact ⟨cl, hs.own.cell _ h⟩
theorem K2 {P : Program} {w : World} {b cl : Nat} {es : Array MapEntry} (h : w.heap[b]? = some (.map es cl)) : (getObj b).run P w = .ok (.map es cl) w := by simp [getObj, Sem.run, h]
section
variable {P : Program} {N : Nat} {r : Option Nat} {K : Ctx} {ops : Array Oper} {Q : Env → FS → LH → Prop} {rest : List Oper} {e : Env} {F : FS} {L : LH}
variable {ty : TypeId} {pos : String} {after : Array Edge} {d : Option Nat} {κ δ : Type} [DecidableEq κ] {ek : κ → Value} {ed : δ → Value}
theorem Ou {T : TypeId} (hk : Od P T ek) {es : Array MapEntry} {m : List (κ × δ)} (hR : N0 ek ed es m) (k : κ) (w : World) :
    (Instr.findKey T (ek k) es.toList).run P w = .ok (((m.map (·.1)).findIdx? fun k' => k' = k).map fun i => (i, ((es.toList[i]?).map (·.val)).getD undef)) w :=
  hk.find k es.toList (m.map (·.1)) (by rw [hR.1]; simp) w
theorem QP {T TK TE : TypeId} {x y : Operand} {b : Nat} {es : Array MapEntry} {m : List (κ × δ)} {k : κ} {z : Value} (hT : P.underlying T = some (.map TK TE)) (hk : Od P TK ek) (hz : ∀ w, (zeroValue TE).run P w = .ok z w) (hx : ev e x = some (.map (some b))) (hy : ev e y = some (ek k))
    (hm : Og F L b es) (hR : N0 ek ed es m) : Fb P N K e F L (.lookup T x y false) ty (((LU m k).map ed).getD z) := fun M a w d pos after g ha hs => by
  obtain ⟨cl, hh⟩ := hm.heap hs
  have hf := Ou hk hR k w
  have hc := hk.check es.isEmpty k w
  rw [OK]
  cases hi : (m.map (·.1)).findIdx? (fun k' => decide (k' = k)) with
  | none =>
    rw [hi] at hf
    simp only [Option.map_none] at hf
    simp [execOp, Instr.lookup, run_underlying hT, ha.ev hx, ha.ev hy, K2 hh, hc, hf, hz]
  | some i =>
    rw [hi] at hf
    obtain ⟨aa, _⟩ := List.findIdx?_eq_some_iff_getElem.1 hi
    simp only [List.length_map] at aa
    have hv := congrArg (fun l => l[i]?) hR.2
    simp only [List.getElem?_map] at hv
    have ab : m[i]? = some m[i] := by simp [aa]
    rw [ab] at hv
    simp only [Option.map_some] at hf hv
    rw [hv] at hf
    simp [execOp, Instr.lookup, run_underlying hT, ha.ev hx, ha.ev hy, K2 hh, hc, hf, aa]
theorem QG {T : TypeId} (hd : CW N d = true) (k : ∀ b, K.w0.heap.size ≤ b → Ct P N r K ops Q rest (e.put d (.map (some b))) F ((b, .map #[] 0) :: L)) :
    Ct P N r K ops Q (⟨d, .makeMap T none, ty, pos, after, none⟩ :: rest) e F L :=
  Jl hd (by intros; simp) fun M a w ha hs => by
    obtain ⟨h1, h2⟩ := hs.push (.map #[] 0)
    exact ⟨_, F, _, _, by simp [execOp, Instr.makeMap, newObj, Sem.run], h1, k _ h2⟩
theorem P2 {M : List Nat} {T TK TE : TypeId} {b i cl : Nat} {es : Array MapEntry} {m : List (κ × δ)} {k : κ} {v : δ} {w : World} (hT : P.underlying T = some (.map TK TE)) (hk : Od P TK ek) (hs : St K M F L w) (hi : L[i]? = some (b, .map es cl)) (hR : N0 ek ed es m) :
    ∃ aj ao w', (Instr.mapUpdate T (.map (some b)) (ek k) (ed v)).run P w = .ok () w' ∧ St K M F (L.set i (b, .map aj ao)) w' ∧ N0 ek ed aj (M4 m k v) := by
  have hh := hs.own.cell _ (List.mem_of_getElem? hi)
  have hf := Ou hk hR k w
  have hc := hk.check false k w
  have hlen : m.length = es.size := by have := congrArg List.length hR.1; simpa using this.symm
  have ab : ∀ (o : Obj), (setObj b o).run P w = .ok () (w.putObj b o) := fun o => by simp [setObj, Sem.run, hh, World.putObj]
  have ak : ∀ (o : Obj), St K M F (L.set i (b, o)) (w.putObj b o) := fun o => hs.O4 hi rfl rfl rfl (by simp) (World.putObj_heap_same (Array.getElem?_eq_some_iff.1 hh).1) (fun j hj => World.putObj_heap_other hj)
  rw [OP]
  cases ai : (m.map (·.1)).findIdx? (fun k' => decide (k' = k)) with
  | none =>
    rw [ai] at hf
    simp only [Option.map_none] at hf
    refine ⟨es.push { key := ek k, val := ed v, born := cl }, cl + 1, _, ?_, ak _, ?_⟩
    · simp [Instr.mapUpdate, run_underlying hT, K2 hh, hc, hf, ab]
    · exact ⟨by simp [hR.1], by simp [hR.2]⟩
  | some j =>
    rw [ai] at hf
    obtain ⟨ah, al, _⟩ := List.findIdx?_eq_some_iff_getElem.1 ai
    simp only [List.length_map] at ah
    simp only [List.getElem_map, decide_eq_true_eq] at al
    simp only [Option.map_some] at hf
    have aa := congrArg (fun l => l[j]?) hR.1
    simp only [List.getElem?_map] at aa
    have aq : m[j]? = some m[j] := by simp [ah]
    have ar : es.toList[j]? = some es[j] := by simp [show j < es.size by omega]
    rw [aq, ar] at aa
    simp only [Option.map_some, Option.some.injEq] at aa
    have au : es[j]? = some es[j] := by simp [show j < es.size by omega]
    have ad : (Instr.keyThatStays (((es[j]?).map (·.key)).getD (ek k)) (ek k)).run P w = .ok (ek k) w := by
      rw [au]
      simp [aa, al, Instr.keyThatStays, hk.same]
    refine ⟨es.modify j fun e => { e with key := ek k, val := ed v }, cl, _, ?_, ak _, ?_⟩
    · simp only [Instr.mapUpdate, run_underlying hT, Sem.run_bind, K2 hh, Result.andThen, hc, hf, ad, ab]
    · constructor
      · apply List.ext_getElem?
        intro n
        have hn := congrArg (fun l => l[n]?) hR.1
        simp only [List.getElem?_map] at hn
        simp only [Array.toList_modify, List.getElem?_map, List.getElem?_modify, List.getElem?_set]
        by_cases ae : j = n
        · subst ae; simp [ah, show j < es.size by omega]
        · simp only [ae, if_false]
          rw [← hn]; cases es.toList[n]? <;> rfl
      · apply List.ext_getElem?
        intro n
        have hn := congrArg (fun l => l[n]?) hR.2
        simp only [List.getElem?_map] at hn
        simp only [Array.toList_modify, List.getElem?_map, List.getElem?_modify, List.getElem?_set]
        by_cases ae : j = n
        · subst ae; simp [ah, show j < es.size by omega]
        · simp only [ae, if_false]
          rw [← hn]; cases es.toList[n]? <;> rfl
theorem PN {T TK TE : TypeId} {x y z : Operand} {b i cl : Nat} {es : Array MapEntry} {m : List (κ × δ)} {k : κ} {v : δ} (hT : P.underlying T = some (.map TK TE)) (hk : Od P TK ek) (hx : ev e x = some (.map (some b))) (hy : ev e y = some (ek k)) (hz : ev e z = some (ed v)) (hi : L[i]? = some (b, .map es cl)) (hR : N0 ek ed es m)
    (kk : ∀ aa ab, N0 ek ed aa (M4 m k v) → Ct P N r K ops Q rest e F (L.set i (b, .map aa ab))) :
    Ct P N r K ops Q (⟨none, .mapUpdate T x y z, ty, pos, after, none⟩ :: rest) e F L :=
  MV (by intros; simp) fun M a w ha hs => by
    obtain ⟨aa, ab, w', hr, ad, ae⟩ := P2 (k := k) (v := v) hT hk hs hi hR
    exact ⟨F, _, w', by simp [execOp, ha.ev hx, ha.ev hy, ha.ev hz, hr], ad, kk aa ab ae⟩
end
def S9 (P : Program) (F : FS) (f : FuncId) (first cap : Array Value) (p : Int → Bool) : Prop :=
  (∀ args w, (callFunc f args).run P w = .ok (.enter f args) w) ∧ ∀ F', AQ F F' → ∀ x, Sy x → Bp P f (first ++ #[.int .i64 x] ++ cap) F' (.bool (p x))
theorem S9.mono {P : Program} {F F' : FS} {f : FuncId} {first cap : Array Value} {p : Int → Bool} (h : S9 P F f first cap p) (hF : AQ F F') : S9 P F' f first cap p := ⟨h.1, fun F2 h2 => h.2 F2 (hF.trans h2)⟩
theorem Spec.Sx {P : Program} {f : FuncId} {args : Array Value} {F0 : FS} {R : FS → LH → Value → Prop} (h : Spec P f args F0 [] R) :
    Spec P f args F0 [] fun F' L' v => L' = [] ∧ ∃ F L, AQ F F' ∧ (∀ p ∈ L, F' p.1 = some p.2) ∧ R F L v := fun w hF hL => by
  refine (h w hF hL).mono ?_
  rintro e w' ⟨v, F', L', rfl, h2, h3, h4, h5, h6, h7⟩
  let K : Ctx := ⟨w, F0, [], []⟩
  have aa : St K [] F' (L' ++ []) w' := by
    show HQ K F' ((L' ++ []) ++ ([] ++ [])) w'
    simp only [List.append_nil]
    exact ⟨h2, h3, h4, h5, fun p hp => (h6 p hp).elim (fun h => by simp [keys] at h) .inr⟩
  obtain ⟨F2, h8, h9, ab⟩ := St.JB L' aa (fun p hp => (h6 p hp).elim (fun h => by simp [keys] at h) id)
  exact ⟨v, F2, [], rfl, h8.Fw, h8.MA, h8.fold, h8.own, h8.KO, rfl, F', L', h9, ab, h7⟩
theorem Mh.mono {P : Program} {gf : FuncId} {first cap : Array Value} {F F' : FS} {α : Type} {encs : α → Array Value} {xs : List α} (h : Mh P gf first cap F encs xs) (hF : AQ F F') : Mh P gf first cap F' encs xs :=
  fun G0 hG => h G0 (hF.trans hG)
theorem RR {P : Program} {N : Nat} {K : Ctx} {e : Env} {F : FS} {L : LH} {ty T T' : TypeId} {x y : Operand} {a b : Value} {p : Prop} [Decidable p] (hg : ∀ w, (eqGuard .eql T x y a b).run P w = .ok () w) (hq : ∀ w, (binOp .eql T a b).run P w = .ok (.bool (decide p)) w) (hx : ev e x = some a) (hy : ev e y = some b) :
    Fb P N K e F L (.binOp .eql T x y T') ty (.bool (decide p)) := fun M ac w d pos after g ha hs => by
  simp [execOp, ha.ev hx, ha.ev hy, hg, hq]
theorem Lk.Bd {F : FS} {b : Nat} {xs : List Int} {E : TypeId} {m : Nat × Nat} (h : F b = some (.cells (ints xs).toArray E m)) (hr : ∀ x ∈ xs, Sy x) (hl : xs.length ≤ maxLen) : Lk F (some ⟨b, 0, none⟩) xs.length xs :=
  ⟨⟨by simp, Nat.le_refl _, hl, O0 xs, .inr ⟨b, 0, _, E, m, rfl, h, by simp, fun j _ => by simp⟩⟩, hr⟩
end Go.SH
