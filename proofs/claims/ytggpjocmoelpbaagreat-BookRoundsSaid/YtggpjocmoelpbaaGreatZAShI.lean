/- The calculus, part I: maps. -/
import Derived.Test.YtggpjocmoelpbaaGreatZAShH
import Derived.Test.YtggpjocmoelpbaaGreatZAPl
namespace Go.SH
open Go.PL
structure KeyOK (P : Program) (T : TypeId) {κ : Type} [DecidableEq κ] (ek : κ → Value) : Prop where
  check : ∀ b k w, (Instr.checkKey b 10000 T (ek k)).run P w = .ok () w
  find : ∀ (k : κ) (es : List MapEntry) (ks : List κ), es.map (·.key) = ks.map ek → ∀ w, (Instr.findKey T (ek k) es).run P w = .ok ((ks.findIdx? fun k' => k' = k).map fun i => (i, ((es[i]?).map (·.val)).getD undef)) w
  same : ∀ k, Instr.sameBits 10000 (ek k) (ek k) = true
def MapR {κ δ : Type} (ek : κ → Value) (ed : δ → Value) (es : Array MapEntry) (m : List (κ × δ)) : Prop :=
  es.toList.map (·.key) = m.map (fun p => ek p.1) ∧ es.toList.map (·.val) = m.map (fun p => ed p.2)
theorem MapR.nil {κ δ : Type} {ek : κ → Value} {ed : δ → Value} : MapR ek ed #[] [] := ⟨rfl, rfl⟩
theorem mget_findIdx {κ δ : Type} [DecidableEq κ] (m : List (κ × δ)) (k : κ) : mget m k = ((m.map (·.1)).findIdx? fun k' => k' = k).bind fun i => (m[i]?).map (·.2) := by
  induction m with
  | nil => rfl
  | cons p m ih =>
    by_cases h : p.1 = k
    · simp [mget, List.findIdx?_cons, h]
    · have e1 : mget (p :: m) k = mget m k := by simp [mget, h]
      rw [e1, ih]
      simp only [List.map_cons, List.findIdx?_cons, h, decide_false, Bool.false_eq_true, if_false]
      cases ((m.map (·.1)).findIdx? fun k' => decide (k' = k)) <;> simp
theorem mput_findIdx {κ δ : Type} [DecidableEq κ] (m : List (κ × δ)) (k : κ) (v : δ) : mput m k v = match ((m.map (·.1)).findIdx? fun k' => k' = k) with | some i => m.set i (k, v) | none => m ++ [(k, v)] := by
  induction m with
  | nil => rfl
  | cons p m ih =>
    unfold mput
    by_cases h : p.1 = k
    · simp [List.findIdx?_cons, h]
    · rw [if_neg h, ih]
      simp only [List.map_cons, List.findIdx?_cons, h, decide_false, Bool.false_eq_true, if_false]
      cases ((m.map (·.1)).findIdx? fun k' => decide (k' = k)) <;> simp
def HasM (F : FS) (L : LH) (b : Nat) (es : Array MapEntry) : Prop := ∃ cl, F b = some (.map es cl) ∨ (b, Obj.map es cl) ∈ L
theorem HasM.own {F : FS} {L : LH} {b cl : Nat} {es : Array MapEntry} (i : Nat) (h : L[i]? = some (b, .map es cl)) : HasM F L b es := ⟨cl, .inr (List.mem_of_getElem? h)⟩
theorem HasM.frozen {F : FS} {L : LH} {b cl : Nat} {es : Array MapEntry} (h : F b = some (.map es cl)) : HasM F L b es := ⟨cl, .inl h⟩
theorem HasM.heap {K : Ctx} {M : List Nat} {F : FS} {L : LH} {w : World} (hs : St K M F L w) {b : Nat} {es : Array MapEntry} (h : HasM F L b es) : ∃ cl, w.heap[b]? = some (.map es cl) := by
  obtain ⟨cl, h | h⟩ := h
  · exact ⟨cl, hs.fle _ _ h⟩
  · exact ⟨cl, hs.own.cell _ h⟩
theorem run_getMap {P : Program} {w : World} {b cl : Nat} {es : Array MapEntry} (h : w.heap[b]? = some (.map es cl)) : (getObj b).run P w = .ok (.map es cl) w := by simp [getObj, Sem.run, h]
section
variable {P : Program} {N : Nat} {r : Option Nat} {K : Ctx} {ops : Array Oper} {Q : Env → FS → LH → Prop} {rest : List Oper} {e : Env} {F : FS} {L : LH}
variable {ty : TypeId} {pos : String} {after : Array Edge} {d : Option Nat} {κ δ : Type} [DecidableEq κ] {ek : κ → Value} {ed : δ → Value}
theorem run_findR {T : TypeId} (hk : KeyOK P T ek) {es : Array MapEntry} {m : List (κ × δ)} (hR : MapR ek ed es m) (k : κ) (w : World) :
    (Instr.findKey T (ek k) es.toList).run P w = .ok (((m.map (·.1)).findIdx? fun k' => k' = k).map fun i => (i, ((es.toList[i]?).map (·.val)).getD undef)) w :=
  hk.find k es.toList (m.map (·.1)) (by rw [hR.1]; simp) w
theorem v_lookup2 {T TK TE : TypeId} {x y : Operand} {b : Nat} {es : Array MapEntry} {m : List (κ × δ)} {k : κ} {z : Value} (hT : P.underlying T = some (.map TK TE)) (hk : KeyOK P TK ek) (hz : ∀ w, (zeroValue TE).run P w = .ok z w) (hx : ev e x = some (.map (some b))) (hy : ev e y = some (ek k))
    (hm : HasM F L b es) (hR : MapR ek ed es m) : OpV P N K e F L (.lookup T x y true) ty (.tuple #[((mget m k).map ed).getD z, .bool (mget m k).isSome]) := fun M a w d pos after g ha hs => by
  obtain ⟨cl, hh⟩ := hm.heap hs
  have hf := run_findR hk hR k w
  have hc := hk.check es.isEmpty k w
  have hlen : m.length = es.toList.length := by have := congrArg List.length hR.1; simpa using this.symm
  rw [mget_findIdx]
  cases hi : (m.map (·.1)).findIdx? (fun k' => decide (k' = k)) with
  | none =>
    rw [hi] at hf
    simp only [Option.map_none] at hf
    simp [execOp, Instr.lookup, run_underlying hT, ha.ev hx, ha.ev hy, run_getMap hh, hc, hf, hz]
  | some i =>
    rw [hi] at hf
    obtain ⟨hlt, _⟩ := List.findIdx?_eq_some_iff_getElem.1 hi
    simp only [List.length_map] at hlt
    have hv := congrArg (fun l => l[i]?) hR.2
    simp only [List.getElem?_map] at hv
    have hm' : m[i]? = some m[i] := by simp [hlt]
    rw [hm'] at hv
    simp only [Option.map_some] at hf hv
    rw [hv] at hf
    simp [execOp, Instr.lookup, run_underlying hT, ha.ev hx, ha.ev hy, run_getMap hh, hc, hf, hlt]
theorem v_lookup1 {T TK TE : TypeId} {x y : Operand} {b : Nat} {es : Array MapEntry} {m : List (κ × δ)} {k : κ} {z : Value} (hT : P.underlying T = some (.map TK TE)) (hk : KeyOK P TK ek) (hz : ∀ w, (zeroValue TE).run P w = .ok z w) (hx : ev e x = some (.map (some b))) (hy : ev e y = some (ek k))
    (hm : HasM F L b es) (hR : MapR ek ed es m) : OpV P N K e F L (.lookup T x y false) ty (((mget m k).map ed).getD z) := fun M a w d pos after g ha hs => by
  obtain ⟨cl, hh⟩ := hm.heap hs
  have hf := run_findR hk hR k w
  have hc := hk.check es.isEmpty k w
  rw [mget_findIdx]
  cases hi : (m.map (·.1)).findIdx? (fun k' => decide (k' = k)) with
  | none =>
    rw [hi] at hf
    simp only [Option.map_none] at hf
    simp [execOp, Instr.lookup, run_underlying hT, ha.ev hx, ha.ev hy, run_getMap hh, hc, hf, hz]
  | some i =>
    rw [hi] at hf
    obtain ⟨hlt, _⟩ := List.findIdx?_eq_some_iff_getElem.1 hi
    simp only [List.length_map] at hlt
    have hv := congrArg (fun l => l[i]?) hR.2
    simp only [List.getElem?_map] at hv
    have hm' : m[i]? = some m[i] := by simp [hlt]
    rw [hm'] at hv
    simp only [Option.map_some] at hf hv
    rw [hv] at hf
    simp [execOp, Instr.lookup, run_underlying hT, ha.ev hx, ha.ev hy, run_getMap hh, hc, hf, hlt]
theorem o_makeMap {T : TypeId} (hd : okDst N d = true) (k : ∀ b, K.w0.heap.size ≤ b → shO P N r K ops Q rest (e.put d (.map (some b))) F ((b, .map #[] 0) :: L)) :
    shO P N r K ops Q (⟨d, .makeMap T none, ty, pos, after, none⟩ :: rest) e F L :=
  shO_op hd (by intros; simp) fun M a w ha hs => by
    obtain ⟨h1, h2⟩ := hs.push (.map #[] 0)
    exact ⟨_, F, _, _, by simp [execOp, Instr.makeMap, newObj, Sem.run], h1, k _ h2⟩
theorem run_mapUpd {M : List Nat} {T TK TE : TypeId} {b i cl : Nat} {es : Array MapEntry} {m : List (κ × δ)} {k : κ} {v : δ} {w : World} (hT : P.underlying T = some (.map TK TE)) (hk : KeyOK P TK ek) (hs : St K M F L w) (hi : L[i]? = some (b, .map es cl)) (hR : MapR ek ed es m) :
    ∃ es' cl' w', (Instr.mapUpdate T (.map (some b)) (ek k) (ed v)).run P w = .ok () w' ∧ St K M F (L.set i (b, .map es' cl')) w' ∧ MapR ek ed es' (mput m k v) := by
  have hh := hs.own.cell _ (List.mem_of_getElem? hi)
  have hf := run_findR hk hR k w
  have hc := hk.check false k w
  have hlen : m.length = es.size := by have := congrArg List.length hR.1; simpa using this.symm
  have hset : ∀ (o : Obj), (setObj b o).run P w = .ok () (w.putObj b o) := fun o => by simp [setObj, Sem.run, hh, World.putObj]
  have hst : ∀ (o : Obj), St K M F (L.set i (b, o)) (w.putObj b o) := fun o => hs.turn hi rfl rfl rfl (by simp) (World.putObj_heap_same (Array.getElem?_eq_some_iff.1 hh).1) (fun j hj => World.putObj_heap_other hj)
  rw [mput_findIdx]
  cases hi2 : (m.map (·.1)).findIdx? (fun k' => decide (k' = k)) with
  | none =>
    rw [hi2] at hf
    simp only [Option.map_none] at hf
    refine ⟨es.push { key := ek k, val := ed v, born := cl }, cl + 1, _, ?_, hst _, ?_⟩
    · simp [Instr.mapUpdate, run_underlying hT, run_getMap hh, hc, hf, hset]
    · exact ⟨by simp [hR.1], by simp [hR.2]⟩
  | some j =>
    rw [hi2] at hf
    obtain ⟨hlt, hkj, _⟩ := List.findIdx?_eq_some_iff_getElem.1 hi2
    simp only [List.length_map] at hlt
    simp only [List.getElem_map, decide_eq_true_eq] at hkj
    simp only [Option.map_some] at hf
    have hkey := congrArg (fun l => l[j]?) hR.1
    simp only [List.getElem?_map] at hkey
    have hm' : m[j]? = some m[j] := by simp [hlt]
    have he' : es.toList[j]? = some es[j] := by simp [show j < es.size by omega]
    rw [hm', he'] at hkey
    simp only [Option.map_some, Option.some.injEq] at hkey
    have hes : es[j]? = some es[j] := by simp [show j < es.size by omega]
    have hstay : (Instr.keyThatStays (((es[j]?).map (·.key)).getD (ek k)) (ek k)).run P w = .ok (ek k) w := by
      rw [hes]
      simp [hkey, hkj, Instr.keyThatStays, hk.same]
    refine ⟨es.modify j fun e => { e with key := ek k, val := ed v }, cl, _, ?_, hst _, ?_⟩
    · simp only [Instr.mapUpdate, run_underlying hT, Sem.run_bind, run_getMap hh, Result.andThen, hc, hf, hstay, hset]
    · constructor
      · apply List.ext_getElem?
        intro n
        have hn := congrArg (fun l => l[n]?) hR.1
        simp only [List.getElem?_map] at hn
        simp only [Array.toList_modify, List.getElem?_map, List.getElem?_modify, List.getElem?_set]
        by_cases hjn : j = n
        · subst hjn; simp [hlt, show j < es.size by omega]
        · simp only [hjn, if_false]
          rw [← hn]; cases es.toList[n]? <;> rfl
      · apply List.ext_getElem?
        intro n
        have hn := congrArg (fun l => l[n]?) hR.2
        simp only [List.getElem?_map] at hn
        simp only [Array.toList_modify, List.getElem?_map, List.getElem?_modify, List.getElem?_set]
        by_cases hjn : j = n
        · subst hjn; simp [hlt, show j < es.size by omega]
        · simp only [hjn, if_false]
          rw [← hn]; cases es.toList[n]? <;> rfl
theorem o_mapUpdate {T TK TE : TypeId} {x y z : Operand} {b i cl : Nat} {es : Array MapEntry} {m : List (κ × δ)} {k : κ} {v : δ} (hT : P.underlying T = some (.map TK TE)) (hk : KeyOK P TK ek) (hx : ev e x = some (.map (some b))) (hy : ev e y = some (ek k)) (hz : ev e z = some (ed v)) (hi : L[i]? = some (b, .map es cl)) (hR : MapR ek ed es m)
    (kk : ∀ es' cl', MapR ek ed es' (mput m k v) → shO P N r K ops Q rest e F (L.set i (b, .map es' cl'))) :
    shO P N r K ops Q (⟨none, .mapUpdate T x y z, ty, pos, after, none⟩ :: rest) e F L :=
  shO_op0 (by intros; simp) fun M a w ha hs => by
    obtain ⟨es', cl', w', hr, hs', hR'⟩ := run_mapUpd (k := k) (v := v) hT hk hs hi hR
    exact ⟨F, _, w', by simp [execOp, ha.ev hx, ha.ev hy, ha.ev hz, hr], hs', kk es' cl' hR'⟩
theorem o_insert {T TK TE : TypeId} {x y z : Operand} {b i cl : Nat} {es : Array MapEntry} {m : List (κ × δ)} {k : κ} {v : δ} (hT : P.underlying T = some (.map TK TE)) (hk : KeyOK P TK ek) (hx : ev e x = some (.map (some b))) (hy : ev e y = some (ek k)) (hz : ev e z = some (ed v)) (hi : L[i]? = some (b, .map es cl)) (hR : MapR ek ed es m)
    (kk : ∀ es' cl', MapR ek ed es' (mput m k v) → shO P N r K ops Q rest e F (L.set i (b, .map es' cl'))) :
    shO P N r K ops Q (⟨none, .insert T x y z, ty, pos, after, none⟩ :: rest) e F L :=
  shO_op0 (by intros; simp) fun M a w ha hs => by
    obtain ⟨es', cl', w', hr, hs', hR'⟩ := run_mapUpd (k := k) (v := v) hT hk hs hi hR
    exact ⟨F, _, w', by simp [execOp, ha.ev hx, ha.ev hy, ha.ev hz, hr], hs', kk es' cl' hR'⟩
end
def FnB (P : Program) (F : FS) (f : FuncId) (first cap : Array Value) (p : Int → Bool) : Prop :=
  (∀ args w, (callFunc f args).run P w = .ok (.enter f args) w) ∧ ∀ F', FExt F F' → ∀ x, I64 x → SpecV P f (first ++ #[.int .i64 x] ++ cap) F' (.bool (p x))
theorem FnB.mono {P : Program} {F F' : FS} {f : FuncId} {first cap : Array Value} {p : Int → Bool} (h : FnB P F f first cap p) (hF : FExt F F') : FnB P F' f first cap p := ⟨h.1, fun F2 h2 => h.2 F2 (hF.trans h2)⟩
theorem Spec.frz {P : Program} {f : FuncId} {args : Array Value} {F0 : FS} {R : FS → LH → Value → Prop} (h : Spec P f args F0 [] R) :
    Spec P f args F0 [] fun F' L' v => L' = [] ∧ ∃ F L, FExt F F' ∧ (∀ p ∈ L, F' p.1 = some p.2) ∧ R F L v := fun w hF hL => by
  refine (h w hF hL).mono ?_
  rintro e w' ⟨v, F', L', rfl, h2, h3, h4, h5, h6, h7⟩
  let K : Ctx := ⟨w, F0, [], []⟩
  have hst : St K [] F' (L' ++ []) w' := by
    show St0 K F' ((L' ++ []) ++ ([] ++ [])) w'
    simp only [List.append_nil]
    exact ⟨h2, h3, h4, h5, fun p hp => (h6 p hp).elim (fun h => by simp [keys] at h) .inr⟩
  obtain ⟨F2, h8, h9, h10⟩ := St.freezeAll L' hst (fun p hp => (h6 p hp).elim (fun h => by simp [keys] at h) id)
  exact ⟨v, F2, [], rfl, h8.keep, h8.fle, h8.fold, h8.own, h8.lnew, rfl, F', L', h9, h10, h7⟩
theorem IterOK.mono {P : Program} {gf : FuncId} {first cap : Array Value} {F F' : FS} {α : Type} {encs : α → Array Value} {xs : List α} (h : IterOK P gf first cap F encs xs) (hF : FExt F F') : IterOK P gf first cap F' encs xs :=
  fun G0 hG => h G0 (hF.trans hG)
theorem v_eqA {P : Program} {N : Nat} {K : Ctx} {e : Env} {F : FS} {L : LH} {ty T T' : TypeId} {x y : Operand} {a b : Value} {p : Prop} [Decidable p] (hg : ∀ w, (eqGuard .eql T x y a b).run P w = .ok () w) (hq : ∀ w, (binOp .eql T a b).run P w = .ok (.bool (decide p)) w) (hx : ev e x = some a) (hy : ev e y = some b) :
    OpV P N K e F L (.binOp .eql T x y T') ty (.bool (decide p)) := fun M ac w d pos after g ha hs => by
  simp [execOp, ha.ev hx, ha.ev hy, hg, hq]
theorem RowI.of_block {F : FS} {b : Nat} {xs : List Int} {E : TypeId} {m : Nat × Nat} (h : F b = some (.cells (ints xs).toArray E m)) (hr : ∀ x ∈ xs, I64 x) (hl : xs.length ≤ maxLen) : RowI F (some ⟨b, 0, none⟩) xs.length xs :=
  ⟨⟨by simp, Nat.le_refl _, hl, oneCell_ints xs, .inr ⟨b, 0, _, E, m, rfl, h, by simp, fun j _ => by simp⟩⟩, hr⟩
end Go.SH
