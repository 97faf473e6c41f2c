/- The calculus, part I: maps. -/
import Derived.Test.YtkfbbjiniapooaaGreatZSShH
import Derived.Test.YtkfbbjiniapooaaGreatZSPl
namespace Go.SH
open Go.PL
structure Nk (P : Program) (T : TypeId) {κ : Type} [DecidableEq κ] (ek : κ → Value) : Prop where
  check : ∀ b k w, (Instr.checkKey b 10000 T (ek k)).run P w = .ok () w
  find : ∀ (k : κ) (es : List MapEntry) (ks : List κ), es.map (·.key) = ks.map ek → ∀ w, (Instr.findKey T (ek k) es).run P w = .ok ((ks.findIdx? fun k' => k' = k).map fun i => (i, ((es[i]?).map (·.val)).getD undef)) w
  same : ∀ k, Instr.sameBits 10000 (ek k) (ek k) = true
theorem KJ {P : Program} {T : TypeId} {kd : IntKind} (hT : P.underlying T = some (.int kd)) : Nk P T (fun k : Int => Value.int kd k) := by
  refine ⟨fun b k w => ?_, fun k es ks h w => ?_, fun k => ?_⟩
  · have key : ∀ n, (Instr.checkKey b (n + 1) T (.int kd k)).run P w = .ok () w := fun n => by simp [Instr.checkKey, run_underlying hT]
    exact key 9999
  · have key : ∀ (es : List MapEntry) (ks : List Int) (i : Nat), es.map (·.key) = ks.map (Value.int kd) → Instr.findNow (.int kd) (.int kd k) es i = some ((ks.findIdx? fun k' => k' = k).map fun j => (i + j, ((es[j]?).map (·.val)).getD undef)) := by
      intro es
      induction es with
      | nil => intro ks i h; have : ks = [] := by simpa using h.symm
               subst this; rfl
      | cons e es ih =>
        intro ks i h
        cases ks with
        | nil => simp at h
        | cons k1 ks =>
          simp only [List.map_cons, List.cons.injEq] at h
          obtain ⟨h1, h2⟩ := h
          simp only [Instr.findNow, h1, Instr.sameNow, if_true]
          by_cases hk : k1 = k
          · subst hk; simp [List.findIdx?_cons]
          · have hb : (k == k1) = false := by simpa using fun e => hk e.symm
            simp only [hb]
            rw [ih ks (i + 1) h2]
            simp [List.findIdx?_cons, hk, Option.map_map, Function.comp_def, Nat.add_assoc, Nat.add_comm 1]
    have := key es ks 0 h
    simp only [Nat.zero_add] at this
    simp [Instr.findKey, run_underlying hT, this]
  · show (kd == kd && k == k) = true
    simp
def Hh {κ δ : Type} (ek : κ → Value) (ed : δ → Value) (es : Array MapEntry) (m : List (κ × δ)) : Prop :=
  es.toList.map (·.key) = m.map (fun p => ek p.1) ∧ es.toList.map (·.val) = m.map (fun p => ed p.2)
theorem Hh.nil {κ δ : Type} {ek : κ → Value} {ed : δ → Value} : Hh ek ed #[] [] := ⟨rfl, rfl⟩
theorem Qw {κ δ : Type} [DecidableEq κ] (m : List (κ × δ)) (k : κ) : Gi m k = ((m.map (·.1)).findIdx? fun k' => k' = k).bind fun i => (m[i]?).map (·.2) := by
  induction m with
  | nil => rfl
  | cons p m ih =>
    by_cases h : p.1 = k
    · simp [Gi, List.findIdx?_cons, h]
    · have e1 : Gi (p :: m) k = Gi m k := by simp [Gi, h]
      rw [e1, ih]
      simp only [List.map_cons, List.findIdx?_cons, h, decide_false, Bool.false_eq_true, if_false]
      cases ((m.map (·.1)).findIdx? fun k' => decide (k' = k)) <;> simp
theorem QK {κ δ : Type} [DecidableEq κ] (m : List (κ × δ)) (k : κ) (v : δ) : Mh m k v = match ((m.map (·.1)).findIdx? fun k' => k' = k) with | some i => m.set i (k, v) | none => m ++ [(k, v)] := by
  induction m with
  | nil => rfl
  | cons p m ih =>
    unfold Mh
    by_cases h : p.1 = k
    · simp [List.findIdx?_cons, h]
    · rw [if_neg h, ih]
      simp only [List.map_cons, List.findIdx?_cons, h, decide_false, Bool.false_eq_true, if_false]
      cases ((m.map (·.1)).findIdx? fun k' => decide (k' = k)) <;> simp
def PI (F : FS) (L : LH) (b : Nat) (es : Array MapEntry) : Prop := ∃ cl, F b = some (.map es cl) ∨ (b, Obj.map es cl) ∈ L
theorem PI.own {F : FS} {L : LH} {b cl : Nat} {es : Array MapEntry} (i : Nat) (h : L[i]? = some (b, .map es cl)) : PI F L b es := ⟨cl, .inr (List.mem_of_getElem? h)⟩
theorem PI.frozen {F : FS} {L : LH} {b cl : Nat} {es : Array MapEntry} (h : F b = some (.map es cl)) : PI F L b es := ⟨cl, .inl h⟩
theorem PI.heap {K : Ctx} {M : List Nat} {F : FS} {L : LH} {w : World} (hs : St K M F L w) {b : Nat} {es : Array MapEntry} (h : PI F L b es) : ∃ cl, w.heap[b]? = some (.map es cl) := by
  obtain ⟨cl, h | h⟩ := h
  · exact ⟨cl, hs.Nr _ _ h⟩
  · exact ⟨cl, hs.own.cell _ h⟩
theorem K0 {P : Program} {w : World} {b cl : Nat} {es : Array MapEntry} (h : w.heap[b]? = some (.map es cl)) : (getObj b).run P w = .ok (.map es cl) w := by simp [getObj, Sem.run, h]
section
variable {P : Program} {N : Nat} {r : Option Nat} {K : Ctx} {ops : Array Oper} {Q : Env → FS → LH → Prop} {rest : List Oper} {e : Env} {F : FS} {L : LH}
variable {ty : TypeId} {pos : String} {after : Array Edge} {d : Option Nat} {κ δ : Type} [DecidableEq κ] {ek : κ → Value} {ed : δ → Value}
theorem PV {T : TypeId} (hk : Nk P T ek) {es : Array MapEntry} {m : List (κ × δ)} (hR : Hh ek ed es m) (k : κ) (w : World) :
    (Instr.findKey T (ek k) es.toList).run P w = .ok (((m.map (·.1)).findIdx? fun k' => k' = k).map fun i => (i, ((es.toList[i]?).map (·.val)).getD undef)) w :=
  hk.find k es.toList (m.map (·.1)) (by rw [hR.1]; simp) w
theorem TM {T TK TE : TypeId} {x y : Operand} {b : Nat} {es : Array MapEntry} {m : List (κ × δ)} {k : κ} {z : Value} (hT : P.underlying T = some (.map TK TE)) (hk : Nk P TK ek) (hz : ∀ w, (zeroValue TE).run P w = .ok z w) (hx : ev e x = some (.map (some b))) (hy : ev e y = some (ek k))
    (hm : PI F L b es) (hR : Hh ek ed es m) : FC P N K e F L (.lookup T x y true) ty (.tuple #[((Gi m k).map ed).getD z, .bool (Gi m k).isSome]) := fun M a w d pos after g ha hs => by
  obtain ⟨cl, hh⟩ := hm.heap hs
  have hf := PV hk hR k w
  have hc := hk.check es.isEmpty k w
  have hlen : m.length = es.toList.length := by have := congrArg List.length hR.1; simpa using this.symm
  rw [Qw]
  cases hi : (m.map (·.1)).findIdx? (fun k' => decide (k' = k)) with
  | none =>
    rw [hi] at hf
    simp only [Option.map_none] at hf
    simp [execOp, Instr.lookup, run_underlying hT, ha.ev hx, ha.ev hy, K0 hh, hc, hf, hz]
  | some i =>
    rw [hi] at hf
    obtain ⟨aa, _⟩ := List.findIdx?_eq_some_iff_getElem.1 hi
    simp only [List.length_map] at aa
    have hv := congrArg (fun l => l[i]?) hR.2
    simp only [List.getElem?_map] at hv
    have ab : m[i]? = some m[i] := by simp [aa]
    rw [ab] at hv
    simp only [Option.map_some] at hf hv
    rw [hv] at hf
    simp [execOp, Instr.lookup, run_underlying hT, ha.ev hx, ha.ev hy, K0 hh, hc, hf, aa]
theorem Qa {T : TypeId} (hd : Dq N d = true) (k : ∀ b, K.w0.heap.size ≤ b → C7 P N r K ops Q rest (e.put d (.map (some b))) F ((b, .map #[] 0) :: L)) :
    C7 P N r K ops Q (⟨d, .makeMap T none, ty, pos, after, none⟩ :: rest) e F L :=
  Hg hd (by intros; simp) fun M a w ha hs => by
    obtain ⟨h1, h2⟩ := hs.push (.map #[] 0)
    exact ⟨_, F, _, _, by simp [execOp, Instr.makeMap, newObj, Sem.run], h1, k _ h2⟩
theorem ON {M : List Nat} {T TK TE : TypeId} {b i cl : Nat} {es : Array MapEntry} {m : List (κ × δ)} {k : κ} {v : δ} {w : World} (hT : P.underlying T = some (.map TK TE)) (hk : Nk P TK ek) (hs : St K M F L w) (hi : L[i]? = some (b, .map es cl)) (hR : Hh ek ed es m) :
    ∃ ai ao w', (Instr.mapUpdate T (.map (some b)) (ek k) (ed v)).run P w = .ok () w' ∧ St K M F (L.set i (b, .map ai ao)) w' ∧ Hh ek ed ai (Mh m k v) := by
  have hh := hs.own.cell _ (List.mem_of_getElem? hi)
  have hf := PV hk hR k w
  have hc := hk.check false k w
  have hlen : m.length = es.size := by have := congrArg List.length hR.1; simpa using this.symm
  have ab : ∀ (o : Obj), (setObj b o).run P w = .ok () (w.putObj b o) := fun o => by simp [setObj, Sem.run, hh, World.putObj]
  have aj : ∀ (o : Obj), St K M F (L.set i (b, o)) (w.putObj b o) := fun o => hs.PA hi rfl rfl rfl (by simp) (World.putObj_heap_same (Array.getElem?_eq_some_iff.1 hh).1) (fun j hj => World.putObj_heap_other hj)
  rw [QK]
  cases ah : (m.map (·.1)).findIdx? (fun k' => decide (k' = k)) with
  | none =>
    rw [ah] at hf
    simp only [Option.map_none] at hf
    refine ⟨es.push { key := ek k, val := ed v, born := cl }, cl + 1, _, ?_, aj _, ?_⟩
    · simp [Instr.mapUpdate, run_underlying hT, K0 hh, hc, hf, ab]
    · exact ⟨by simp [hR.1], by simp [hR.2]⟩
  | some j =>
    rw [ah] at hf
    obtain ⟨af, ak, _⟩ := List.findIdx?_eq_some_iff_getElem.1 ah
    simp only [List.length_map] at af
    simp only [List.getElem_map, decide_eq_true_eq] at ak
    simp only [Option.map_some] at hf
    have aa := congrArg (fun l => l[j]?) hR.1
    simp only [List.getElem?_map] at aa
    have aq : m[j]? = some m[j] := by simp [af]
    have ar : es.toList[j]? = some es[j] := by simp [show j < es.size by omega]
    rw [aq, ar] at aa
    simp only [Option.map_some, Option.some.injEq] at aa
    have au : es[j]? = some es[j] := by simp [show j < es.size by omega]
    have ad : (Instr.keyThatStays (((es[j]?).map (·.key)).getD (ek k)) (ek k)).run P w = .ok (ek k) w := by
      rw [au]
      simp [aa, ak, Instr.keyThatStays, hk.same]
    refine ⟨es.modify j fun e => { e with key := ek k, val := ed v }, cl, _, ?_, aj _, ?_⟩
    · simp only [Instr.mapUpdate, run_underlying hT, Sem.run_bind, K0 hh, Result.andThen, hc, hf, ad, ab]
    · constructor
      · apply List.ext_getElem?
        intro n
        have hn := congrArg (fun l => l[n]?) hR.1
        simp only [List.getElem?_map] at hn
        simp only [Array.toList_modify, List.getElem?_map, List.getElem?_modify, List.getElem?_set]
        by_cases ae : j = n
        · subst ae; simp [af, show j < es.size by omega]
        · simp only [ae, if_false]
          rw [← hn]; cases es.toList[n]? <;> rfl
      · apply List.ext_getElem?
        intro n
        have hn := congrArg (fun l => l[n]?) hR.2
        simp only [List.getElem?_map] at hn
        simp only [Array.toList_modify, List.getElem?_map, List.getElem?_modify, List.getElem?_set]
        by_cases ae : j = n
        · subst ae; simp [af, show j < es.size by omega]
        · simp only [ae, if_false]
          rw [← hn]; cases es.toList[n]? <;> rfl
theorem RC {T TK TE : TypeId} {x y z : Operand} {b i cl : Nat} {es : Array MapEntry} {m : List (κ × δ)} {k : κ} {v : δ} (hT : P.underlying T = some (.map TK TE)) (hk : Nk P TK ek) (hx : ev e x = some (.map (some b))) (hy : ev e y = some (ek k)) (hz : ev e z = some (ed v)) (hi : L[i]? = some (b, .map es cl)) (hR : Hh ek ed es m)
    (kk : ∀ aa ab, Hh ek ed aa (Mh m k v) → C7 P N r K ops Q rest e F (L.set i (b, .map aa ab))) :
    C7 P N r K ops Q (⟨none, .mapUpdate T x y z, ty, pos, after, none⟩ :: rest) e F L :=
  L8 (by intros; simp) fun M a w ha hs => by
    obtain ⟨aa, ab, w', hr, ad, ae⟩ := ON (k := k) (v := v) hT hk hs hi hR
    exact ⟨F, _, w', by simp [execOp, ha.ev hx, ha.ev hy, ha.ev hz, hr], ad, kk aa ab ae⟩
theorem Nw {T TK TE : TypeId} {x y z : Operand} {b i cl : Nat} {es : Array MapEntry} {m : List (κ × δ)} {k : κ} {v : δ} (hT : P.underlying T = some (.map TK TE)) (hk : Nk P TK ek) (hx : ev e x = some (.map (some b))) (hy : ev e y = some (ek k)) (hz : ev e z = some (ed v)) (hi : L[i]? = some (b, .map es cl)) (hR : Hh ek ed es m)
    (kk : ∀ aa ab, Hh ek ed aa (Mh m k v) → C7 P N r K ops Q rest e F (L.set i (b, .map aa ab))) :
    C7 P N r K ops Q (⟨none, .insert T x y z, ty, pos, after, none⟩ :: rest) e F L :=
  L8 (by intros; simp) fun M a w ha hs => by
    obtain ⟨aa, ab, w', hr, ad, ae⟩ := ON (k := k) (v := v) hT hk hs hi hR
    exact ⟨F, _, w', by simp [execOp, ha.ev hx, ha.ev hy, ha.ev hz, hr], ad, kk aa ab ae⟩
end
def XQ (P : Program) (F : FS) (f : FuncId) (first cap : Array Value) (p : Int → Bool) : Prop :=
  (∀ args w, (callFunc f args).run P w = .ok (.enter f args) w) ∧ ∀ F', AY F F' → ∀ x, W4 x → Bz P f (first ++ #[.int .i64 x] ++ cap) F' (.bool (p x))
theorem XQ.mono {P : Program} {F F' : FS} {f : FuncId} {first cap : Array Value} {p : Int → Bool} (h : XQ P F f first cap p) (hF : AY F F') : XQ P F' f first cap p := ⟨h.1, fun F2 h2 => h.2 F2 (hF.trans h2)⟩
theorem Bz.to {P : Program} {f : FuncId} {args : Array Value} {F : FS} {v v' : Value} (h : Bz P f args F v) (he : v = v') : Bz P f args F v' := he ▸ h
theorem Spec.Ym {P : Program} {f : FuncId} {args : Array Value} {F0 : FS} {R : FS → LH → Value → Prop} (h : Spec P f args F0 [] R) :
    Spec P f args F0 [] fun F' L' v => L' = [] ∧ ∃ F L, AY F F' ∧ (∀ p ∈ L, F' p.1 = some p.2) ∧ R F L v := fun w hF hL => by
  refine (h w hF hL).mono ?_
  rintro e w' ⟨v, F', L', rfl, h2, h3, h4, h5, h6, h7⟩
  let K : Ctx := ⟨w, F0, [], []⟩
  have aa : St K [] F' (L' ++ []) w' := by
    show HX K F' ((L' ++ []) ++ ([] ++ [])) w'
    simp only [List.append_nil]
    exact ⟨h2, h3, h4, h5, fun p hp => (h6 p hp).elim (fun h => by simp [keys] at h) .inr⟩
  obtain ⟨F2, h8, h9, ab⟩ := St.JA L' aa (fun p hp => (h6 p hp).elim (fun h => by simp [keys] at h) id)
  exact ⟨v, F2, [], rfl, h8.FP, h8.Nr, h8.fold, h8.own, h8.KG, rfl, F', L', h9, ab, h7⟩
theorem FC.to {P : Program} {N : Nat} {K : Ctx} {e : Env} {F : FS} {L : LH} {op : Op} {ty : TypeId} {v v' : Value} (h : FC P N K e F L op ty v) (he : v = v') : FC P N K e F L op ty v' := he ▸ h
theorem IZ.mono {P : Program} {gf : FuncId} {first cap : Array Value} {F F' : FS} {α : Type} {encs : α → Array Value} {xs : List α} (h : IZ P gf first cap F encs xs) (hF : AY F F') : IZ P gf first cap F' encs xs :=
  fun G0 hG => h G0 (hF.trans hG)
theorem Ri {P : Program} {N : Nat} {K : Ctx} {e : Env} {F : FS} {L : LH} {ty T T' : TypeId} {x y : Operand} {a b : Value} {p : Prop} [Decidable p] (hg : ∀ w, (eqGuard .eql T x y a b).run P w = .ok () w) (hq : ∀ w, (binOp .eql T a b).run P w = .ok (.bool (decide p)) w) (hx : ev e x = some a) (hy : ev e y = some b) :
    FC P N K e F L (.binOp .eql T x y T') ty (.bool (decide p)) := fun M ac w d pos after g ha hs => by
  simp [execOp, ha.ev hx, ha.ev hy, hg, hq]
theorem Lq.BS {F : FS} {b : Nat} {xs : List Int} {E : TypeId} {m : Nat × Nat} (h : F b = some (.cells (ints xs).toArray E m)) (hr : ∀ x ∈ xs, W4 x) (hl : xs.length ≤ maxLen) : Lq F (some ⟨b, 0, none⟩) xs.length xs :=
  ⟨⟨by simp, Nat.le_refl _, hl, QF xs, .inr ⟨b, 0, _, E, m, rfl, h, by simp, fun j _ => by simp⟩⟩, hr⟩
end Go.SH
