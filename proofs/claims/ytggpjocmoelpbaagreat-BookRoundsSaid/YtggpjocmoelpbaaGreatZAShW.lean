/- The calculus, part W: a list that is copied onto its own end. -/
import Derived.Test.YtggpjocmoelpbaaGreatZAShV
namespace Go.SH
section
variable {α : Type} {R : Enc α} {P : Program} {N : Nat} {r : Option Nat} {K : Ctx} {ops : Array Oper} {Q : Env → FS → LH → Prop} {rest : List Oper} {e : Env} {F : FS} {L Lb : LH} {C : LH → LH}
variable {ty : TypeId} {pos : String} {after : Array Edge} {d : Option Nat} {a : Option Addr} {cap : Nat} {xs zs : List α}
theorem o_copyVP {T T2 E : TypeId} {x y : Operand} {nb sz bytes n c2 : Nat} {z : Value} {l : Int} (hd : okDst N d = true) (hT : SlTy P T E sz z bytes) (hR : EncOK sz R) (hx : ev e x = some (.slice (vwA a cap l.toNat sz) (n - l.toNat) (cap - l.toNat))) (hy : ev e y = some (.slice a l.toNat c2))
    (hZ : ∀ X, Zip L Lb (C X) X) (hown : SlR nb E sz R F a n cap xs Lb) (hl : 0 ≤ l ∧ l < (xs.length : Int)) (hz : zs = xs.take l.toNat ++ (xs.take (Nat.min l.toNat (xs.length - l.toNat)) ++ xs.drop (l.toNat + Nat.min l.toNat (xs.length - l.toNat))))
    (k : ∀ Lb', SlR nb E sz R F a n cap zs Lb' → shO P N r K ops Q rest (e.put d (.int .i64 (Nat.min l.toNat (xs.length - l.toNat) : Nat))) F (C Lb')) :
    shO P N r K ops Q (⟨d, .call ⟨.builtin .copy, #[x, y], #[T, T2]⟩, ty, pos, after, none⟩ :: rest) e F L := by
  obtain rfl := hown.caps.1
  obtain ⟨Lr, hp, _⟩ := Zip.one hZ []
  refine shO_perm hp ?_
  generalize hlN : l.toNat = m at *
  have hm : m < xs.length := by omega
  obtain ⟨_, wss, h5, h6⟩ := hown.src (R := R) (L := Lb ++ Lr) (Lr := Lr) (.refl _)
  have hws := h5.lens hR
  generalize hq : Nat.min m (xs.length - m) = q at *
  have hq1 : q ≤ m := by rw [← hq]; exact Nat.min_le_left _ _
  have hq2 : q ≤ xs.length - m := by rw [← hq]; exact Nat.min_le_right _ _
  have hsrc' : Src F (Lb ++ Lr) sz a q (wss.take q).flatten := by
    obtain ⟨g1, g2, g3⟩ := h6
    have hlen : (wss.take q).length = q := by rw [List.length_take, h5.length]; omega
    have hfl : (wss.take q).flatten.length = q * sz := by rw [flatten_len (fun vs hv => hws vs (List.mem_of_mem_take hv)), hlen]
    refine ⟨hfl, ?_, ?_⟩
    · rw [flatten_take _ _ hws]; exact fun v hv => g2 v (List.mem_of_mem_take hv)
    · by_cases h00 : q = 0
      · exact .inl h00
      · rcases g3 with g3 | ⟨b, o, c, g3, g4, g5, g6⟩
        · omega
        · have hle : q * sz ≤ xs.length * sz := Nat.mul_le_mul_right _ (by omega)
          refine .inr ⟨b, o, c, g3, g4, by omega, fun j hj => ?_⟩
          rw [g6 j (by omega), flatten_take _ _ hws, List.getElem?_take, if_pos (by omega)]
  obtain ⟨h3, _, vss, h4, hv5, hv6, h7⟩ := hown
  rcases h7 with ⟨a', hv, hn, rfl⟩ | ⟨g', cap', pre, sp, hv, h8, h9, h10, rfl⟩
  · omega
  · cases hv
    have hvs := h4.lens hR
    have hcm : ¬ cap = m := by
      intro he
      have hcl := h8
      omega
    have hvw : vwA (some ⟨g', pre.length, none⟩) cap m sz = some ⟨g', pre.length + m * sz, none⟩ := by simp [vwA, hcm, Addr.add]
    rw [hvw] at hx
    have hvl : vss.length = xs.length := h4.length
    have hnm : (xs.length - m) * sz + m * sz = xs.length * sz := by rw [← Nat.add_mul]; congr 1; omega
    have hsrc2 : Src F ([(g', Obj.cells (pre ++ vss.flatten ++ sp).toArray E (0, 0))] ++ Lr) sz (some ⟨g', pre.length, none⟩) (Nat.min m (xs.length - m)) (wss.take q).flatten := by rw [hq]; exact hsrc'
    refine o_copy (i := 0) (cs := (pre ++ vss.flatten ++ sp).toArray) hd hT hx hy rfl (by simp only [List.size_toArray, List.length_append]; omega) hsrc2 ?_
    have hall : All2 (R F) (vss.take m ++ (wss.take q ++ vss.drop (m + q))) zs := by
      rw [hz]
      exact (h4.take m).append ((h5.take q).append (h4.drop (m + q)))
    have hzl : zs.length = xs.length := by
      rw [hz]; simp only [List.length_append, List.length_take, List.length_drop]; omega
    have hcells : (pre ++ vss.flatten ++ sp).take (pre.length + m * sz) ++ (wss.take q).flatten ++ (pre ++ vss.flatten ++ sp).drop (pre.length + m * sz + (wss.take q).flatten.length) = pre ++ (vss.take m ++ (wss.take q ++ vss.drop (m + q))).flatten ++ sp := by
      have hlq := hsrc'.1
      have hms : m * sz ≤ vss.flatten.length := by rw [hv5]; exact Nat.mul_le_mul_right _ (by omega)
      have hmq : m * sz + q * sz = (m + q) * sz := by rw [Nat.add_mul]
      have hmqs : (m + q) * sz ≤ vss.flatten.length := by rw [hv5]; exact Nat.mul_le_mul_right _ (by omega)
      rw [hlq, Nat.add_assoc pre.length, hmq, List.append_assoc pre, List.take_append, List.take_of_length_le (Nat.le_add_right ..), show pre.length + m * sz - pre.length = m * sz by omega, List.drop_append, List.drop_eq_nil_of_le (Nat.le_add_right ..), show pre.length + (m + q) * sz - pre.length = (m + q) * sz by omega, List.nil_append]
      rw [List.take_append_of_le_length hms, List.drop_append_of_le_length hmqs, List.flatten_append, List.flatten_append, flatten_take _ _ hvs, flatten_drop _ _ hvs]
      simp only [List.append_assoc]
    have hfl : (vss.take m ++ (wss.take q ++ vss.drop (m + q))).flatten.length = xs.length * sz := by
      rw [flatten_len (hall.lens hR), hall.length, hzl]
    simp only [List.toList_toArray] at *
    rw [hcells, hq]
    have hk := k [(g', .cells (pre ++ (vss.take m ++ (wss.take q ++ vss.drop (m + q))).flatten ++ sp).toArray E (0, 0))] ⟨fun p hp => by rw [List.mem_singleton.1 hp]; exact h3 (g', .cells (pre ++ vss.flatten ++ sp).toArray E (0, 0)) (List.mem_cons_self ..), hzl.symm, _, hall, hfl, hall.ones hR, .inr ⟨g', cap, pre, sp, rfl, h8, h9, by rw [hfl, ← hv5]; exact h10, rfl⟩⟩
    exact shO_to hZ hp hk
theorem v_slicePre {F0 : FS} {T E : TypeId} {x y : Operand} {nb sz n : Nat} {h : Int} (hT : P.underlying T = some (.slice E)) (hE : ∀ w, (sizeOf E).run P w = .ok sz w) (hx : ev e x = some (.slice a n cap)) (hy : ev e y = some (.int .i64 h)) (hown : SlR nb E sz R F0 a n cap xs Lb) (g : 0 ≤ h ∧ h ≤ (xs.length : Int)) :
    OpV P N K e F L (.slice T x none (some y) none) ty (.slice a h.toNat cap) := by
  have hc := hown.caps
  refine OpV.eq (v_slice (l := 0) (h := h) hT hE hx (.inl ⟨rfl, rfl⟩) (.inr ⟨_, rfl, hy⟩) (by omega)) ?_
  have e1 : (if cap = (0 : Int).toNat then a else a.map (·.add ((0 : Int).toNat * sz))) = a := by
    cases a with
    | none => simp
    | some a => simp [Addr.add]
  simp only [Int.toNat_zero, Nat.sub_zero] at *
  first
  | rfl
  | (rw [show (if cap = 0 then a else a.map (·.add (0 * sz))) = a from e1])
theorem InP.push0 {nb Ei sz E n : Nat} {hs : List Hd} {xss : List (List α)} {Lc Lo : LH} (h : InP nb Ei sz R F hs xss Lc) {hs' : List Hd} (he : hs' = hs ++ [(none, 0, 0)]) (ho : SlR nb E 1 hdE F a n cap hs' Lo) {zss : List (List α)} (hz : zss = xss ++ [[]]) : NlR nb E Ei sz R F a n cap zss (Lo ++ (Lc ++ [])) :=
  h.push he ho (SlR.nil _ _ _ _ _) hz
theorem PtrR.one {T : TypeId} {v : Value} {x : Option α} (h : PtrR T R F v x) : v.oneCell' = true := by
  cases x with
  | none => rw [show v = .pointer none from h]; rfl
  | some x => obtain ⟨b, c, m, rfl, _⟩ := h; rfl
end
end Go.SH
