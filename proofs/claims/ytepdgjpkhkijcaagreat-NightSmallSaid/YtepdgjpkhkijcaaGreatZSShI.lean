/- The calculus, part I: maps. -/
import Derived.Test.YtepdgjpkhkijcaaGreatZSShH
import Derived.Test.YtepdgjpkhkijcaaGreatZSPl
namespace Go.SH
open Go.PL
structure NS (P : Program) (T : TypeId) {κ : Type} [DecidableEq κ] (ek : κ → Value) : Prop where
  check : ∀ b k w, (Instr.checkKey b 10000 T (ek k)).run P w = .ok () w
  find : ∀ (k : κ) (es : List MapEntry) (ks : List κ), es.map (·.key) = ks.map ek → ∀ w, (Instr.findKey T (ek k) es).run P w = .ok ((ks.findIdx? fun k' => k' = k).map fun i => (i, ((es[i]?).map (·.val)).getD undef)) w
  same : ∀ k, Instr.sameBits 10000 (ek k) (ek k) = true
theorem NT {P : Program} {T : TypeId} {kd : IntKind} (hT : P.underlying T = some (.int kd)) : NS P T (fun k : Int => Value.int kd k) := by
  refine ⟨fun b k w => ?_, fun k es ks h w => ?_, fun k => ?_⟩
  · have key : ∀ n, (Instr.checkKey b (n + 1) T (.int kd k)).run P w = .ok () w := fun n => by simp [Instr.checkKey, run_underlying hT]
    exact key 9999
  · have key : ∀ (es : List MapEntry) (ks : List Int) (i : Nat), es.map (·.key) = ks.map (Value.int kd) → Instr.findNow (.int kd) (.int kd k) es i = some ((ks.findIdx? fun k' => k' = k).map fun j => (i + j, ((es[j]?).map (·.val)).getD undef)) := by
      intro es
      induction es with
      | nil => intro ks i h; have : ks = [] := by simpa using h.symm
               subst this; rfl
      | cons e es ih =>
        intro ks i h
        cases ks with
        | nil => simp at h
        | cons k1 ks =>
          simp only [List.map_cons, List.cons.injEq] at h
          obtain ⟨h1, h2⟩ := h
          simp only [Instr.findNow, h1, Instr.sameNow, if_true]
          by_cases hk : k1 = k
          · subst hk; simp [List.findIdx?_cons]
          · have hb : (k == k1) = false := by simpa using fun e => hk e.symm
            simp only [hb]
            rw [ih ks (i + 1) h2]
            simp [List.findIdx?_cons, hk, Option.map_map, Function.comp_def, Nat.add_assoc, Nat.add_comm 1]
    have := key es ks 0 h
    simp only [Nat.zero_add] at this
    simp [Instr.findKey, run_underlying hT, this]
  · show (kd == kd && k == k) = true
    simp
def HO {κ δ : Type} (ek : κ → Value) (ed : δ → Value) (es : Array MapEntry) (m : List (κ × δ)) : Prop :=
  es.toList.map (·.key) = m.map (fun p => ek p.1) ∧ es.toList.map (·.val) = m.map (fun p => ed p.2)
theorem HO.nil {κ δ : Type} {ek : κ → Value} {ed : δ → Value} : HO ek ed #[] [] := ⟨rfl, rfl⟩
theorem N9 {κ δ : Type} [DecidableEq κ] (m : List (κ × δ)) (k : κ) : LD m k = ((m.map (·.1)).findIdx? fun k' => k' = k).bind fun i => (m[i]?).map (·.2) := by
  induction m with
  | nil => rfl
  | cons p m ih =>
    by_cases h : p.1 = k
    · simp [LD, List.findIdx?_cons, h]
    · have e1 : LD (p :: m) k = LD m k := by simp [LD, h]
      rw [e1, ih]
      simp only [List.map_cons, List.findIdx?_cons, h, decide_false, Bool.false_eq_true, if_false]
      cases ((m.map (·.1)).findIdx? fun k' => decide (k' = k)) <;> simp
theorem Oz {κ δ : Type} [DecidableEq κ] (m : List (κ × δ)) (k : κ) (v : δ) : Pz m k v = match ((m.map (·.1)).findIdx? fun k' => k' = k) with | some i => m.set i (k, v) | none => m ++ [(k, v)] := by
  induction m with
  | nil => rfl
  | cons p m ih =>
    unfold Pz
    by_cases h : p.1 = k
    · simp [List.findIdx?_cons, h]
    · rw [if_neg h, ih]
      simp only [List.map_cons, List.findIdx?_cons, h, decide_false, Bool.false_eq_true, if_false]
      cases ((m.map (·.1)).findIdx? fun k' => decide (k' = k)) <;> simp
def Oc (F : FS) (L : LH) (b : Nat) (es : Array MapEntry) : Prop := ∃ cl, F b = some (.map es cl) ∨ (b, Obj.map es cl) ∈ L
theorem Oc.own {F : FS} {L : LH} {b cl : Nat} {es : Array MapEntry} (i : Nat) (h : L[i]? = some (b, .map es cl)) : Oc F L b es := ⟨cl, .inr (List.mem_of_getElem? h)⟩
theorem Oc.frozen {F : FS} {L : LH} {b cl : Nat} {es : Array MapEntry} (h : F b = some (.map es cl)) : Oc F L b es := ⟨cl, .inl h⟩
theorem Oc.heap {K : Ctx} {M : List Nat} {F : FS} {L : LH} {w : World} (hs : St K M F L w) {b : Nat} {es : Array MapEntry} (h : Oc F L b es) : ∃ cl, w.heap[b]? = some (.map es cl) := by
  obtain ⟨cl, h | h⟩ := h
  · exact ⟨cl, hs.LL _ _ h⟩
  · exact ⟨cl, hs.own.cell _ h⟩
theorem KR {P : Program} {w : World} {b cl : Nat} {es : Array MapEntry} (h : w.heap[b]? = some (.map es cl)) : (getObj b).run P w = .ok (.map es cl) w := by simp [getObj, Sem.run, h]
section
variable {P : Program} {N : Nat} {r : Option Nat} {K : Ctx} {ops : Array Oper} {Q : Env → FS → LH → Prop} {rest : List Oper} {e : Env} {F : FS} {L : LH}
variable {ty : TypeId} {pos : String} {after : Array Edge} {d : Option Nat} {κ δ : Type} [DecidableEq κ] {ek : κ → Value} {ed : δ → Value}
theorem NV {T : TypeId} (hk : NS P T ek) {es : Array MapEntry} {m : List (κ × δ)} (hR : HO ek ed es m) (k : κ) (w : World) :
    (Instr.findKey T (ek k) es.toList).run P w = .ok (((m.map (·.1)).findIdx? fun k' => k' = k).map fun i => (i, ((es.toList[i]?).map (·.val)).getD undef)) w :=
  hk.find k es.toList (m.map (·.1)) (by rw [hR.1]; simp) w
theorem PO {T TK TE : TypeId} {x y : Operand} {b : Nat} {es : Array MapEntry} {m : List (κ × δ)} {k : κ} {z : Value} (hT : P.underlying T = some (.map TK TE)) (hk : NS P TK ek) (hz : ∀ w, (zeroValue TE).run P w = .ok z w) (hx : ev e x = some (.map (some b))) (hy : ev e y = some (ek k))
    (hm : Oc F L b es) (hR : HO ek ed es m) : FM P N K e F L (.lookup T x y true) ty (.tuple #[((LD m k).map ed).getD z, .bool (LD m k).isSome]) := fun M a w d pos after g ha hs => by
  obtain ⟨cl, hh⟩ := hm.heap hs
  have hf := NV hk hR k w
  have hc := hk.check es.isEmpty k w
  have hlen : m.length = es.toList.length := by have := congrArg List.length hR.1; simpa using this.symm
  rw [N9]
  cases hi : (m.map (·.1)).findIdx? (fun k' => decide (k' = k)) with
  | none =>
    rw [hi] at hf
    simp only [Option.map_none] at hf
    simp [execOp, Instr.lookup, run_underlying hT, ha.ev hx, ha.ev hy, KR hh, hc, hf, hz]
  | some i =>
    rw [hi] at hf
    obtain ⟨a6, _⟩ := List.findIdx?_eq_some_iff_getElem.1 hi
    simp only [List.length_map] at a6
    have hv := congrArg (fun l => l[i]?) hR.2
    simp only [List.getElem?_map] at hv
    have aa : m[i]? = some m[i] := by simp [a6]
    rw [aa] at hv
    simp only [Option.map_some] at hf hv
    rw [hv] at hf
    simp [execOp, Instr.lookup, run_underlying hT, ha.ev hx, ha.ev hy, KR hh, hc, hf, a6]
theorem PH {T : TypeId} (hd : De N d = true) (k : ∀ b, K.w0.heap.size ≤ b → Cr P N r K ops Q rest (e.put d (.map (some b))) F ((b, .map #[] 0) :: L)) :
    Cr P N r K ops Q (⟨d, .makeMap T none, ty, pos, after, none⟩ :: rest) e F L :=
  Jd hd (by intros; simp) fun M a w ha hs => by
    obtain ⟨h1, h2⟩ := hs.push (.map #[] 0)
    exact ⟨_, F, _, _, by simp [execOp, Instr.makeMap, newObj, Sem.run], h1, k _ h2⟩
theorem Ph {M : List Nat} {T TK TE : TypeId} {b i cl : Nat} {es : Array MapEntry} {m : List (κ × δ)} {k : κ} {v : δ} {w : World} (hT : P.underlying T = some (.map TK TE)) (hk : NS P TK ek) (hs : St K M F L w) (hi : L[i]? = some (b, .map es cl)) (hR : HO ek ed es m) :
    ∃ ai al w', (Instr.mapUpdate T (.map (some b)) (ek k) (ed v)).run P w = .ok () w' ∧ St K M F (L.set i (b, .map ai al)) w' ∧ HO ek ed ai (Pz m k v) := by
  have hh := hs.own.cell _ (List.mem_of_getElem? hi)
  have hf := NV hk hR k w
  have hc := hk.check false k w
  have hlen : m.length = es.size := by have := congrArg List.length hR.1; simpa using this.symm
  have aa : ∀ (o : Obj), (setObj b o).run P w = .ok () (w.putObj b o) := fun o => by simp [setObj, Sem.run, hh, World.putObj]
  have aj : ∀ (o : Obj), St K M F (L.set i (b, o)) (w.putObj b o) := fun o => hs.Mz hi rfl rfl rfl (by simp) (World.putObj_heap_same (Array.getElem?_eq_some_iff.1 hh).1) (fun j hj => World.putObj_heap_other hj)
  rw [Oz]
  cases ah : (m.map (·.1)).findIdx? (fun k' => decide (k' = k)) with
  | none =>
    rw [ah] at hf
    simp only [Option.map_none] at hf
    refine ⟨es.push { key := ek k, val := ed v, born := cl }, cl + 1, _, ?_, aj _, ?_⟩
    · simp [Instr.mapUpdate, run_underlying hT, KR hh, hc, hf, aa]
    · exact ⟨by simp [hR.1], by simp [hR.2]⟩
  | some j =>
    rw [ah] at hf
    obtain ⟨ae, ak, _⟩ := List.findIdx?_eq_some_iff_getElem.1 ah
    simp only [List.length_map] at ae
    simp only [List.getElem_map, decide_eq_true_eq] at ak
    simp only [Option.map_some] at hf
    have a6 := congrArg (fun l => l[j]?) hR.1
    simp only [List.getElem?_map] at a6
    have ao : m[j]? = some m[j] := by simp [ae]
    have aq : es.toList[j]? = some es[j] := by simp [show j < es.size by omega]
    rw [ao, aq] at a6
    simp only [Option.map_some, Option.some.injEq] at a6
    have ar : es[j]? = some es[j] := by simp [show j < es.size by omega]
    have ab : (Instr.keyThatStays (((es[j]?).map (·.key)).getD (ek k)) (ek k)).run P w = .ok (ek k) w := by
      rw [ar]
      simp [a6, ak, Instr.keyThatStays, hk.same]
    refine ⟨es.modify j fun e => { e with key := ek k, val := ed v }, cl, _, ?_, aj _, ?_⟩
    · simp only [Instr.mapUpdate, run_underlying hT, Sem.run_bind, KR hh, Result.andThen, hc, hf, ab, aa]
    · constructor
      · apply List.ext_getElem?
        intro n
        have hn := congrArg (fun l => l[n]?) hR.1
        simp only [List.getElem?_map] at hn
        simp only [Array.toList_modify, List.getElem?_map, List.getElem?_modify, List.getElem?_set]
        by_cases ad : j = n
        · subst ad; simp [ae, show j < es.size by omega]
        · simp only [ad, if_false]
          rw [← hn]; cases es.toList[n]? <;> rfl
      · apply List.ext_getElem?
        intro n
        have hn := congrArg (fun l => l[n]?) hR.2
        simp only [List.getElem?_map] at hn
        simp only [Array.toList_modify, List.getElem?_map, List.getElem?_modify, List.getElem?_set]
        by_cases ad : j = n
        · subst ad; simp [ae, show j < es.size by omega]
        · simp only [ad, if_false]
          rw [← hn]; cases es.toList[n]? <;> rfl
theorem OG {T TK TE : TypeId} {x y z : Operand} {b i cl : Nat} {es : Array MapEntry} {m : List (κ × δ)} {k : κ} {v : δ} (hT : P.underlying T = some (.map TK TE)) (hk : NS P TK ek) (hx : ev e x = some (.map (some b))) (hy : ev e y = some (ek k)) (hz : ev e z = some (ed v)) (hi : L[i]? = some (b, .map es cl)) (hR : HO ek ed es m)
    (kk : ∀ a6 aa, HO ek ed a6 (Pz m k v) → Cr P N r K ops Q rest e F (L.set i (b, .map a6 aa))) :
    Cr P N r K ops Q (⟨none, .mapUpdate T x y z, ty, pos, after, none⟩ :: rest) e F L :=
  Mb (by intros; simp) fun M a w ha hs => by
    obtain ⟨a6, aa, w', hr, ab, ad⟩ := Ph (k := k) (v := v) hT hk hs hi hR
    exact ⟨F, _, w', by simp [execOp, ha.ev hx, ha.ev hy, ha.ev hz, hr], ab, kk a6 aa ad⟩
end
def RG (P : Program) (F : FS) (f : FuncId) (first cap : Array Value) (p : Int → Bool) : Prop :=
  (∀ args w, (callFunc f args).run P w = .ok (.enter f args) w) ∧ ∀ F', AN F F' → ∀ x, Q8 x → Ba P f (first ++ #[.int .i64 x] ++ cap) F' (.bool (p x))
theorem RG.mono {P : Program} {F F' : FS} {f : FuncId} {first cap : Array Value} {p : Int → Bool} (h : RG P F f first cap p) (hF : AN F F') : RG P F' f first cap p := ⟨h.1, fun F2 h2 => h.2 F2 (hF.trans h2)⟩
theorem Spec.Ra {P : Program} {f : FuncId} {args : Array Value} {F0 : FS} {R : FS → LH → Value → Prop} (h : Spec P f args F0 [] R) :
    Spec P f args F0 [] fun F' L' v => L' = [] ∧ ∃ F L, AN F F' ∧ (∀ p ∈ L, F' p.1 = some p.2) ∧ R F L v := fun w hF hL => by
  refine (h w hF hL).mono ?_
  rintro e w' ⟨v, F', L', rfl, h2, h3, h4, h5, h6, h7⟩
  let K : Ctx := ⟨w, F0, [], []⟩
  have a6 : St K [] F' (L' ++ []) w' := by
    show Gm K F' ((L' ++ []) ++ ([] ++ [])) w'
    simp only [List.append_nil]
    exact ⟨h2, h3, h4, h5, fun p hp => (h6 p hp).elim (fun h => by simp [keys] at h) .inr⟩
  obtain ⟨F2, h8, h9, aa⟩ := St.IP L' a6 (fun p hp => (h6 p hp).elim (fun h => by simp [keys] at h) id)
  exact ⟨v, F2, [], rfl, h8.EL, h8.LL, h8.fold, h8.own, h8.J5, rfl, F', L', h9, aa, h7⟩
theorem K8.mono {P : Program} {gf : FuncId} {first cap : Array Value} {F F' : FS} {α : Type} {encs : α → Array Value} {xs : List α} (h : K8 P gf first cap F encs xs) (hF : AN F F') : K8 P gf first cap F' encs xs :=
  fun G0 hG => h G0 (hF.trans hG)
theorem Nh {P : Program} {N : Nat} {K : Ctx} {e : Env} {F : FS} {L : LH} {ty T T' : TypeId} {x y : Operand} {a b : Value} {p : Prop} [Decidable p] (hg : ∀ w, (eqGuard .eql T x y a b).run P w = .ok () w) (hq : ∀ w, (binOp .eql T a b).run P w = .ok (.bool (decide p)) w) (hx : ev e x = some a) (hy : ev e y = some b) :
    FM P N K e F L (.binOp .eql T x y T') ty (.bool (decide p)) := fun M ac w d pos after g ha hs => by
  simp [execOp, ha.ev hx, ha.ev hy, hg, hq]
theorem K6.AG {F : FS} {b : Nat} {xs : List Int} {E : TypeId} {m : Nat × Nat} (h : F b = some (.cells (ints xs).toArray E m)) (hr : ∀ x ∈ xs, Q8 x) (hl : xs.length ≤ maxLen) : K6 F (some ⟨b, 0, none⟩) xs.length xs :=
  ⟨⟨by simp, Nat.le_refl _, hl, N8 xs, .inr ⟨b, 0, _, E, m, rfl, h, by simp, fun j _ => by simp⟩⟩, hr⟩
end Go.SH
