/- The calculus, part C: memory. -/
import Derived.Test.YtdhookifhfkcpaaGreatZBShB
namespace Go.SH
def Has (F : FS) (L : LH) (b : Nat) (c : Array Value) : Prop := ∃ E m, F b = some (.cells c E m) ∨ (b, Obj.cells c E m) ∈ L
theorem Has.frozen {F : FS} {L : LH} {b : Nat} {c : Array Value} {E : TypeId} {m : Nat × Nat} (h : F b = some (.cells c E m)) : Has F L b c := ⟨E, m, .inl h⟩
theorem Has.own {F : FS} {L : LH} {b : Nat} {c : Array Value} {E : TypeId} {m : Nat × Nat} (i : Nat) (h : L[i]? = some (b, .cells c E m)) : Has F L b c := ⟨E, m, .inr (List.mem_of_getElem? h)⟩
theorem Has.heap {K : Ctx} {M : List Nat} {F : FS} {L : LH} {w : World} (hs : St K M F L w) {b : Nat} {c : Array Value} (h : Has F L b c) : ∃ E m, w.heap[b]? = some (.cells c E m) := by
  obtain ⟨E, m, h | h⟩ := h
  · exact ⟨E, m, hs.MA _ _ h⟩
  · exact ⟨E, m, hs.own.cell _ h⟩
theorem run_loadCellsFrom (P : Program) (w : World) (a : Addr) : ∀ (n i : Nat) (acc : Array Value) (vs : List Value), vs.length = n → (∀ j, j < n → w.cell? (a.add (i + j)) = vs[j]?) → (∀ j, j < n → (vs[j]?).isSome) →
    (loadCellsFrom a i n acc).run P w = .ok (acc ++ vs.toArray) w
  | 0, i, acc, vs, hl, _, _ => by
    have : vs = [] := List.eq_nil_of_length_eq_zero hl
    subst this; simp [loadCellsFrom]
  | n + 1, i, acc, [], hl, _, _ => by simp at hl
  | n + 1, i, acc, v :: vs, hl, hc, hv => by
    have h0 := hc 0 (by omega)
    simp only [Nat.add_zero, List.length_cons, Nat.zero_lt_succ, List.getElem?_eq_getElem, List.getElem_cons_zero] at h0
    have ih := run_loadCellsFrom P w a n (i + 1) (acc.push v) vs (by simpa using hl) (fun j hj => by have := hc (j + 1) (by omega); simpa [Nat.add_assoc, Nat.add_comm 1 j] using this) (fun j hj => by have := hv (j + 1) (by omega); simpa using this)
    have : (load (a.add i)).run P w = .ok v w := by simp [load, Sem.run, h0]
    simp only [loadCellsFrom, Sem.run_bind, this, Result.andThen]
    rw [ih]; simp
theorem cell_of_heap {w : World} {b o : Nat} {c : Array Value} {E : TypeId} {m : Nat × Nat} (h : w.heap[b]? = some (.cells c E m)) : w.cell? ⟨b, o, none⟩ = c[o]? := by simp [World.cell?, h]
theorem add_lit (b o n : Nat) : (⟨b, o, none⟩ : Addr).add n = ⟨b, o + n, none⟩ := by unfold Addr.add; split <;> simp_all
theorem run_loadCells {P : Program} {w : World} {b o n : Nat} {c : Array Value} {E : TypeId} {m : Nat × Nat} (h : w.heap[b]? = some (.cells c E m)) (hn : o + n ≤ c.size) :
    (loadCells ⟨b, o, none⟩ n).run P w = .ok (c.extract o (o + n)) w := by
  unfold loadCells
  rw [run_loadCellsFrom P w ⟨b, o, none⟩ n 0 #[] ((c.extract o (o + n)).toList) (by simp; omega) (fun j hj => by
    rw [add_lit, cell_of_heap h]
    simp only [Array.toList_extract, List.extract_eq_take_drop, List.getElem?_take, List.getElem?_drop, Nat.zero_add]
    rw [if_pos (by omega)]; simp) (fun j hj => by
    simp only [Array.toList_extract, List.extract_eq_take_drop, List.getElem?_take, List.getElem?_drop]
    rw [if_pos (by omega)]; simp; omega)]
  simp only [Array.empty_append, Array.toArray_toList]
theorem HQ.push {K : Ctx} {F : FS} {L : LH} {w : World} (hs : HQ K F L w) (o : Obj) : HQ K F ((w.heap.size, o) :: L) (w.alloc o) ∧ K.w0.heap.size ≤ w.heap.size := by
  have aa : ∀ b : Nat, (∃ o', w.heap[b]? = some o') → b < w.heap.size := fun b ⟨o', h⟩ => (Array.getElem?_eq_some_iff.1 h).1
  have hold : ∀ b o', w.heap[b]? = some o' → (w.alloc o).heap[b]? = some o' := fun b o' h => by
    rw [show (w.alloc o).heap = w.heap.push o from rfl, Array.getElem?_push, if_neg (by have := aa b ⟨o', h⟩; omega)]; exact h
  refine ⟨⟨hs.Fw.trans ⟨rfl, rfl, rfl, by simp, fun b hb _ => ?_⟩, fun b o' h => hold b o' (hs.MA b o' h), hs.fold, ⟨?_, ?_, ?_⟩, ?_⟩, hs.Fw.size⟩
  · rw [show (w.alloc o).heap = w.heap.push o from rfl, Array.getElem?_push, if_neg (by omega)]
  · refine List.nodup_cons.2 ⟨fun hm => ?_, hs.own.nodup⟩
    obtain ⟨p, hp, he⟩ := List.mem_map.1 hm
    have h1 := hs.own.cell p hp
    have h2 := aa p.1 ⟨_, h1⟩
    rw [he] at h2; exact Nat.lt_irrefl _ h2
  · intro p hp
    rcases List.mem_cons.1 hp with rfl | hp
    · rw [show (w.alloc o).heap = w.heap.push o from rfl]; simp
    · exact hold _ _ (hs.own.cell p hp)
  · intro p hp
    rcases List.mem_cons.1 hp with rfl | hp
    · cases hF : F w.heap.size with
      | none => rfl
      | some o' => exact absurd (aa _ ⟨o', hs.MA _ _ hF⟩) (Nat.lt_irrefl _)
    · exact hs.own.free p hp
  · intro p hp
    rcases List.mem_cons.1 hp with rfl | hp
    · exact .inr hs.Fw.size
    · exact hs.KO p hp
theorem St.push {K : Ctx} {M : List Nat} {F : FS} {L : LH} {w : World} (hs : St K M F L w) (o : Obj) : St K M F ((w.heap.size, o) :: L) (w.alloc o) ∧ K.w0.heap.size ≤ w.heap.size := HQ.push hs o
theorem mem_set {L : LH} {i : Nat} {p q : Nat × Obj} (h : q ∈ L.set i p) : q = p ∨ q ∈ L := by
  rcases List.mem_or_eq_of_mem_set h with h | h
  · exact .inr h
  · exact .inl h
theorem Nw {L : LH} {i b : Nat} {o o' : Obj} (h : L[i]? = some (b, o)) : (L.set i (b, o')).map Prod.fst = L.map Prod.fst := by
  apply List.ext_getElem?
  intro j
  simp only [List.getElem?_map, List.getElem?_set]
  by_cases aa : i = j
  · subst aa
    have ab : i < L.length := (List.getElem?_eq_some_iff.1 h).1
    simp [ab]
    rw [List.getElem?_eq_getElem ab] at h
    simp at h; simp [h]
  · simp [aa]
theorem Nz {L : LH} (hn : (L.map Prod.fst).Nodup) {i : Nat} {p q : Nat × Obj} (hi : L[i]? = some p) (hq : q ∈ L) (he : q.1 = p.1) : q = p := by
  obtain ⟨j, hj⟩ := List.getElem?_of_mem hq
  have h1 : (L.map Prod.fst)[i]? = some p.1 := by simp [hi]
  have h2 : (L.map Prod.fst)[j]? = some p.1 := by simp [hj, he]
  have aa : i = j := by
    have ab := (List.getElem?_eq_some_iff.1 h1)
    have ad := (List.getElem?_eq_some_iff.1 h2)
    obtain ⟨ai, ae⟩ := ab
    obtain ⟨aj, ah⟩ := ad
    exact (List.getElem_inj hn).1 (ae.trans ah.symm)
  subst aa
  rw [hi] at hj; exact (Option.some.inj hj).symm
theorem HQ.O4 {K : Ctx} {F : FS} {L : LH} {w w' : World} (hs : HQ K F L w) {i b : Nat} {o o' : Obj} (hi : L[i]? = some (b, o)) (ai : w'.os = w.os) (ab : w'.tape = w.tape) (ad : w'.output = w.output)
    (aj : w'.heap.size = w.heap.size) (hb : w'.heap[b]? = some o') (aa : ∀ k, k ≠ b → w'.heap[k]? = w.heap[k]?) : HQ K F (L.set i (b, o')) w' := by
  have hm : (b, o) ∈ L := List.mem_of_getElem? hi
  have ah : F b = none := hs.own.free _ hm
  refine ⟨⟨ai.trans hs.Fw.os, ab.trans hs.Fw.tape, ad.trans hs.Fw.output, by rw [aj]; exact hs.Fw.size, fun k hk hx => ?_⟩, fun k ob h => ?_, hs.fold, ⟨?_, ?_, ?_⟩, ?_⟩
  · have ae : k ≠ b := by
      rintro rfl
      rcases hs.KO _ hm with h | h
      · exact hx h
      · exact absurd hk (Nat.not_lt.2 h)
    rw [aa k ae]; exact hs.Fw.block k hk hx
  · have ae : k ≠ b := by rintro rfl; rw [ah] at h; cases h
    rw [aa k ae]; exact hs.MA k ob h
  · rw [Nw hi]; exact hs.own.nodup
  · intro p hp
    by_cases he : p.1 = b
    · have h1 : (L.set i (b, o'))[i]? = some (b, o') := by rw [List.getElem?_set_self (List.getElem?_eq_some_iff.1 hi).1]
      have := Nz (L := L.set i (b, o')) (by rw [Nw hi]; exact hs.own.nodup) h1 hp he
      rw [this]; exact hb
    · rcases mem_set hp with rfl | hp
      · exact absurd rfl he
      · rw [aa _ he]; exact hs.own.cell p hp
  · intro p hp
    rcases mem_set hp with rfl | hp
    · exact ah
    · exact hs.own.free p hp
  · intro p hp
    rcases mem_set hp with rfl | hp
    · exact hs.KO (b, o) hm
    · exact hs.KO p hp
theorem MC {L X : LH} {i : Nat} {p : Nat × Obj} (h : L[i]? = some p) : (L ++ X)[i]? = some p := by
  rw [List.getElem?_append_left (List.getElem?_eq_some_iff.1 h).1]; exact h
theorem Rt {L X : LH} {i : Nat} {p q : Nat × Obj} (h : L[i]? = some p) : (L ++ X).set i q = L.set i q ++ X := by
  rw [List.set_append_left _ _ (List.getElem?_eq_some_iff.1 h).1]
theorem St.O4 {K : Ctx} {M : List Nat} {F : FS} {L : LH} {w w' : World} (hs : St K M F L w) {i b : Nat} {o o' : Obj} (hi : L[i]? = some (b, o)) (ae : w'.os = w.os) (ab : w'.tape = w.tape) (ad : w'.output = w.output)
    (ah : w'.heap.size = w.heap.size) (hb : w'.heap[b]? = some o') (aa : ∀ k, k ≠ b → w'.heap[k]? = w.heap[k]?) : St K M F (L.set i (b, o')) w' := by
  have := HQ.O4 hs (MC hi) ae ab ad ah hb aa
  rw [Rt hi] at this; exact this
theorem St.setCell {K : Ctx} {M : List Nat} {F : FS} {L : LH} {w : World} (hs : St K M F L w) {i b o : Nat} {c : Array Value} {E : TypeId} {m : Nat × Nat} (hi : L[i]? = some (b, .cells c E m)) (v : Value) :
    St K M F (L.set i (b, .cells (c.setIfInBounds o v) E m)) (w.setCell ⟨b, o, none⟩ v) := by
  have hb := hs.own.cell _ (List.mem_of_getElem? hi)
  refine hs.O4 hi rfl rfl rfl (by simp [World.setCell]) ?_ (fun k hk => ?_)
  · simp only [World.setCell, Array.getElem?_modify, if_true]
    rw [hb]; rfl
  · simp only [World.setCell, Array.getElem?_modify]
    rw [if_neg (fun h => hk h.symm)]
theorem DV {P : Program} {K : Ctx} {M : List Nat} {F : FS} {i b : Nat} {E : TypeId} : ∀ (vs : List Value) (w : World) (L : LH) (c : Array Value) (o j : Nat), St K M F L w → L[i]? = some (b, .cells c E (0, 0)) → o + j + vs.length ≤ c.size → (∀ v ∈ vs, v.oneCell' = true) →
    ∃ w', (storeCells ⟨b, o, none⟩ vs j).run P w = .ok () w' ∧ St K M F (L.set i (b, .cells ((vs.zipIdx (o + j)).foldl (fun c p => c.setIfInBounds p.2 p.1) c) E (0, 0))) w'
  | [], w, L, c, o, j, hs, hi, _, _ => by
    refine ⟨w, rfl, ?_⟩
    have : L.set i (b, .cells c E (0, 0)) = L := by
      apply List.ext_getElem?
      intro k
      rw [List.getElem?_set]
      split
      · rename_i h; subst h; rw [hi]; simp [(List.getElem?_eq_some_iff.1 hi).1]
      · rfl
    simp only [List.zipIdx_nil, List.foldl_nil]; rw [this]; exact hs
  | v :: vs, w, L, c, o, j, hs, hi, hn, h1 => by
    have hb := hs.own.cell _ (List.mem_of_getElem? hi)
    have hc : w.cell? ⟨b, o + j, none⟩ = c[o + j]? := cell_of_heap hb
    have aa : o + j < c.size := by simp at hn; omega
    have ah : w.frozen? ⟨b, o + j, none⟩ = false := by simp [World.frozen?, hb]
    have ab := hs.setCell (o := o + j) hi v
    have hlen := (List.getElem?_eq_some_iff.1 hi).1
    obtain ⟨w', hr, ad⟩ := DV (P := P) vs (w.setCell ⟨b, o + j, none⟩ v) _ (c.setIfInBounds (o + j) v) o (j + 1) ab (List.getElem?_set_self hlen) (by simp at hn ⊢; omega) (fun u hu => h1 u (List.mem_cons_of_mem _ hu))
    refine ⟨w', ?_, ?_⟩
    · have ae := h1 v (List.mem_cons_self ..)
      have : (store ((⟨b, o, none⟩ : Addr).add j) v).run P w = .ok () (w.setCell ⟨b, o + j, none⟩ v) := by
        rw [add_lit]
        have ai : w.cell? ⟨b, o + j, none⟩ = some c[o + j] := by rw [hc]; simp [aa]
        cases v <;> simp_all [store, Sem.run, Value.oneCell']
      simp only [storeCells, Sem.run_bind, this, Result.andThen]
      exact hr
    · simpa [List.zipIdx_cons, Nat.add_assoc] using ad
section
variable {P : Program} {N : Nat} {r : Option Nat} {K : Ctx} {ops : Array Oper} {Q : Env → FS → LH → Prop} {rest : List Oper} {e : Env} {F : FS} {L : LH}
variable {ty : TypeId} {pos : String} {after : Array Edge}
section
variable {d : Option Nat} (hd : CW N d = true)
include hd
theorem Bu {T : TypeId} {z : Value} (hz : ∀ w, (zeroValue T).run P w = .ok z w) (k : ∀ b, K.w0.heap.size ≤ b → Ct P N r K ops Q rest (e.put d (.pointer (some ⟨b, 0, none⟩))) F ((b, .cells z.cells T) :: L)) :
    Ct P N r K ops Q (⟨d, .alloc T, ty, pos, after, none⟩ :: rest) e F L :=
  Jl hd (by intros; simp) fun M a w ha hs => by
    obtain ⟨h1, h2⟩ := hs.push (.cells z.cells T)
    exact ⟨_, _, _, _, by simp [execOp, Instr.alloc, hz, newVar, newRow, newObj, Sem.run], h1, k _ h2⟩
theorem BB {T : TypeId} {x : Operand} {v : Value} (hx : ev e x = some v) (k : ∀ b, K.w0.heap.size ≤ b → Ct P N r K ops Q rest (e.put d (.pointer (some ⟨b, 0, none⟩))) F ((b, .cells v.cells T) :: L)) :
    Ct P N r K ops Q (⟨d, .box T x, ty, pos, after, none⟩ :: rest) e F L :=
  Jl hd (by intros; simp) fun M a w ha hs => by
    obtain ⟨h1, h2⟩ := hs.push (.cells v.cells T)
    exact ⟨_, _, _, _, by simp [execOp, Instr.box, ha.ev hx, newVar, newRow, newObj, Sem.run], h1, k _ h2⟩
end
theorem AS {T : TypeId} {x : Operand} {b o : Nat} {c : Array Value} {v : Value} (hT : ∀ w, (isAgg T).run P w = .ok false w) (hx : ev e x = some (.pointer (some ⟨b, o, none⟩))) (hc : Has F L b c) (hv : c[o]? = some v) :
    Fb P N K e F L (.load T x) ty v := fun M a w d pos after g ha hs => by
  obtain ⟨E, m, hh⟩ := hc.heap hs
  have : w.cell? ⟨b, o, none⟩ = some v := by rw [cell_of_heap hh]; exact hv
  simp [execOp, Instr.loadAt, Instr.sureAddr, loadVar, hT, ha.ev hx, load, Sem.run, this]
theorem Bn {T : TypeId} {x : Operand} {b o n : Nat} {c : Array Value} {cs : Array Value} (hT : ∀ w, (isAgg T).run P w = .ok true w) (hn : ∀ w, (sizeOf T).run P w = .ok n w) (hx : ev e x = some (.pointer (some ⟨b, o, none⟩))) (hc : Has F L b c) (hle : o + n ≤ c.size) (hv : c.extract o (o + n) = cs) :
    Fb P N K e F L (.load T x) ty (.agg cs) := fun M a w d pos after g ha hs => by
  obtain ⟨E, m, hh⟩ := hc.heap hs
  have := run_loadCells (P := P) hh hle
  simp [execOp, Instr.loadAt, Instr.sureAddr, loadVar, hT, hn, ha.ev hx, this, hv]
theorem Ap {T : TypeId} {x : Operand} {i b o off : Nat} (hf : ∀ a w, (Instr.fieldAt T (.pointer (some a)) i).run P w = .ok (.pointer (some (a.add off))) w) (hx : ev e x = some (.pointer (some ⟨b, o, none⟩))) :
    Fb P N K e F L (.fieldAddr T x i) ty (.pointer (some ⟨b, o + off, none⟩)) := fun M a w d pos after g ha hs => by simp [execOp, ha.ev hx, hf, add_lit]
theorem GG {T E : TypeId} {x y : Operand} {b o n c sz : Nat} {i : Int} (hT : P.underlying T = some (.slice E)) (hE : ∀ w, (sizeOf E).run P w = .ok sz w) (hx : ev e x = some (.slice (some ⟨b, o, none⟩) n c)) (hy : ev e y = some (.int .i64 i)) (hi : 0 ≤ i ∧ i < n) :
    Fb P N K e F L (.indexAddr T x y) ty (.pointer (some ⟨b, o + i.toNat * sz, none⟩)) := fun M a w d pos after g ha hs => by
  simp [execOp, Instr.indexAt, asIntOf, run_underlying hT, ha.ev hx, ha.ev hy, hE, hi, add_lit]
theorem D1 {T E : TypeId} {x y : Operand} {b o n sz : Nat} {i : Int} (hT : P.underlying T = some (.array n E)) (hE : ∀ w, (sizeOf E).run P w = .ok sz w) (hx : ev e x = some (.pointer (some ⟨b, o, none⟩))) (hy : ev e y = some (.int .i64 i)) (hi : 0 ≤ i ∧ i < n) :
    Fb P N K e F L (.indexAddr T x y) ty (.pointer (some ⟨b, o + i.toNat * sz, none⟩)) := fun M a w d pos after g ha hs => by
  simp [execOp, Instr.indexAt, Instr.sureAddr, asIntOf, run_underlying hT, ha.ev hx, ha.ev hy, hE, hi, add_lit]
theorem BX {T : TypeId} {parts : Array (Nat × Operand)} {vs : List (Nat × Value)} {v : Value} (hp : parts.toList.mapM (fun p => (ev e p.2).map fun v => (p.1, v)) = some vs) (hb : ∀ w, (Instr.build T vs.toArray).run P w = .ok v w) : Fb P N K e F L (.build T parts) ty v := fun M a w d pos after g ha hs => by
  have key : ∀ (l : List (Nat × Operand)) (vs : List (Nat × Value)), l.mapM (fun p => (ev e p.2).map fun v => (p.1, v)) = some vs → l.map (fun p => (p.1, a.eval p.2)) = vs := by
    intro l
    induction l with
    | nil => intro vs h; simpa using h
    | cons x l ih =>
      intro vs h
      simp only [List.mapM_cons, Option.bind_eq_bind, Option.bind_eq_some_iff, Option.pure_def, Option.some.injEq, Option.map_eq_some_iff] at h
      obtain ⟨p, ⟨v, hv, rfl⟩, aa, ab, rfl⟩ := h
      simp [ha.ev hv, ih aa ab]
  have e1 : parts.map (fun p => (p.1, a.eval p.2)) = vs.toArray := Array.ext' (by rw [Array.toList_map]; exact key _ _ hp)
  have e2 : (parts.map fun (i, x) => (i, a.eval x)) = vs.toArray := e1
  simp [execOp, e2, hb]
theorem BL {T : TypeId} {x y : Operand} {b o i : Nat} {c : Array Value} {E : TypeId} {v : Value} (hT : ∀ w, (sizeOf T).run P w = .ok 1 w) (hx : ev e x = some (.pointer (some ⟨b, o, none⟩))) (hy : ev e y = some v) (h1 : v.oneCell' = true) (hi : L[i]? = some (b, .cells c E (0, 0))) (ho : o < c.size)
    (k : Ct P N r K ops Q rest e F (L.set i (b, .cells (c.setIfInBounds o v) E (0, 0)))) : Ct P N r K ops Q (⟨none, .store T x y, ty, pos, after, none⟩ :: rest) e F L :=
  MV (by intros; simp) fun M a w ha hs => by
    have aa : v.cells = #[v] := by cases v <;> simp_all [Value.cells, Value.oneCell']
    obtain ⟨w', hr, ab⟩ := DV (P := P) [v] w L c o 0 hs hi (by simp; omega) (by simpa using h1)
    exact ⟨F, _, w', by simp [execOp, Instr.storeAt, Instr.sureAddr, storeVar, ha.ev hx, ha.ev hy, hT, aa, hr], ab, by simpa using k⟩
theorem BD {T : TypeId} {x y : Operand} {b o i n : Nat} {c cs : Array Value} {E : TypeId} (hT : ∀ w, (sizeOf T).run P w = .ok n w) (hx : ev e x = some (.pointer (some ⟨b, o, none⟩))) (hy : ev e y = some (.agg cs)) (hn : cs.size = n) (h1 : ∀ v ∈ cs.toList, v.oneCell' = true) (hi : L[i]? = some (b, .cells c E (0, 0))) (ho : o + n ≤ c.size)
    (k : Ct P N r K ops Q rest e F (L.set i (b, .cells ((cs.toList.zipIdx o).foldl (fun c p => c.setIfInBounds p.2 p.1) c) E (0, 0)))) : Ct P N r K ops Q (⟨none, .store T x y, ty, pos, after, none⟩ :: rest) e F L :=
  MV (by intros; simp) fun M a w ha hs => by
    obtain ⟨w', hr, aa⟩ := DV (P := P) cs.toList w L c o 0 hs hi (by simp; omega) h1
    refine ⟨F, _, w', ?_, aa, by simpa using k⟩
    simp [execOp, Instr.storeAt, Instr.sureAddr, storeVar, ha.ev hx, ha.ev hy, hT, Value.cells, hn, hr]
end
end Go.SH
