/- The calculus, part W: a list that is copied onto its own end. -/
import Derived.Test.YtdhookifhfkcpaaGreatZBShV
namespace Go.SH
section
variable {α : Type} {R : Hf α} {P : Program} {N : Nat} {r : Option Nat} {K : Ctx} {ops : Array Oper} {Q : Env → FS → LH → Prop} {rest : List Oper} {e : Env} {F : FS} {L Lb : LH} {C : LH → LH}
variable {ty : TypeId} {pos : String} {after : Array Edge} {d : Option Nat} {a : Option Addr} {cap : Nat} {xs zs : List α}
theorem QV {T T2 E : TypeId} {x y : Operand} {nb sz bytes n c2 : Nat} {z : Value} {l : Int} (hd : CW N d = true) (hT : EN P T E sz z bytes) (hR : Ck sz R) (hx : ev e x = some (.slice (Sv a cap l.toNat sz) (n - l.toNat) (cap - l.toNat))) (hy : ev e y = some (.slice a l.toNat c2))
    (hZ : ∀ X, Zip L Lb (C X) X) (ae : AI nb E sz R F a n cap xs Lb) (hl : 0 ≤ l ∧ l < (xs.length : Int)) (hz : zs = xs.take l.toNat ++ (xs.take (Nat.min l.toNat (xs.length - l.toNat)) ++ xs.drop (l.toNat + Nat.min l.toNat (xs.length - l.toNat))))
    (k : ∀ Lb', AI nb E sz R F a n cap zs Lb' → Ct P N r K ops Q rest (e.put d (.int .i64 (Nat.min l.toNat (xs.length - l.toNat) : Nat))) F (C Lb')) :
    Ct P N r K ops Q (⟨d, .call ⟨.builtin .copy, #[x, y], #[T, T2]⟩, ty, pos, after, none⟩ :: rest) e F L := by
  obtain rfl := ae.A1.1
  obtain ⟨Lr, hp, _⟩ := Zip.one hZ []
  refine Bc hp ?_
  generalize bc : l.toNat = m at *
  have hm : m < xs.length := by omega
  obtain ⟨_, aa, h5, h6⟩ := ae.src (R := R) (L := Lb ++ Lr) (Lr := Lr) (.refl _)
  have ak := h5.lens hR
  generalize hq : Nat.min m (xs.length - m) = q at *
  have bd : q ≤ m := by rw [← hq]; exact Nat.min_le_left _ _
  have bg : q ≤ xs.length - m := by rw [← hq]; exact Nat.min_le_right _ _
  have ad : Src F (Lb ++ Lr) sz a q (aa.take q).flatten := by
    obtain ⟨g1, g2, g3⟩ := h6
    have hlen : (aa.take q).length = q := by rw [List.length_take, h5.length]; omega
    have aj : (aa.take q).flatten.length = q * sz := by rw [DB (fun vs hv => ak vs (List.mem_of_mem_take hv)), hlen]
    refine ⟨aj, ?_, ?_⟩
    · rw [FA _ _ ak]; exact fun v hv => g2 v (List.mem_of_mem_take hv)
    · by_cases au : q = 0
      · exact .inl au
      · rcases g3 with g3 | ⟨b, o, c, g3, g4, g5, g6⟩
        · omega
        · have hle : q * sz ≤ xs.length * sz := Nat.mul_le_mul_right _ (by omega)
          refine .inr ⟨b, o, c, g3, g4, by omega, fun j hj => ?_⟩
          rw [g6 j (by omega), FA _ _ ak, List.getElem?_take, if_pos (by omega)]
  obtain ⟨h3, _, vss, h4, al, bh, h7⟩ := ae
  rcases h7 with ⟨a', hv, hn, rfl⟩ | ⟨g', av, pre, sp, hv, h8, h9, aw, rfl⟩
  · omega
  · cases hv
    have aq := h4.lens hR
    have ax : ¬ cap = m := by
      intro he
      have bj := h8
      omega
    have ay : Sv (some ⟨g', pre.length, none⟩) cap m sz = some ⟨g', pre.length + m * sz, none⟩ := by simp [Sv, ax, Addr.add]
    rw [ay] at hx
    have bk : vss.length = xs.length := h4.length
    have bl : (xs.length - m) * sz + m * sz = xs.length * sz := by rw [← Nat.add_mul]; congr 1; omega
    have ai : Src F ([(g', Obj.cells (pre ++ vss.flatten ++ sp).toArray E (0, 0))] ++ Lr) sz (some ⟨g', pre.length, none⟩) (Nat.min m (xs.length - m)) (aa.take q).flatten := by rw [hq]; exact ad
    refine Rg (i := 0) (cs := (pre ++ vss.flatten ++ sp).toArray) hd hT hx hy rfl (by simp only [List.size_toArray, List.length_append]; omega) ai ?_
    have ab : DT (R F) (vss.take m ++ (aa.take q ++ vss.drop (m + q))) zs := by
      rw [hz]
      exact (h4.take m).append ((h5.take q).append (h4.drop (m + q)))
    have ar : zs.length = xs.length := by
      rw [hz]; simp only [List.length_append, List.length_take, List.length_drop]; omega
    have ah : (pre ++ vss.flatten ++ sp).take (pre.length + m * sz) ++ (aa.take q).flatten ++ (pre ++ vss.flatten ++ sp).drop (pre.length + m * sz + (aa.take q).flatten.length) = pre ++ (vss.take m ++ (aa.take q ++ vss.drop (m + q))).flatten ++ sp := by
      have az := ad.1
      have ba : m * sz ≤ vss.flatten.length := by rw [al]; exact Nat.mul_le_mul_right _ (by omega)
      have bb : m * sz + q * sz = (m + q) * sz := by rw [Nat.add_mul]
      have ao : (m + q) * sz ≤ vss.flatten.length := by rw [al]; exact Nat.mul_le_mul_right _ (by omega)
      rw [az, Nat.add_assoc pre.length, bb, List.append_assoc pre, List.take_append, List.take_of_length_le (Nat.le_add_right ..), show pre.length + m * sz - pre.length = m * sz by omega, List.drop_append, List.drop_eq_nil_of_le (Nat.le_add_right ..), show pre.length + (m + q) * sz - pre.length = (m + q) * sz by omega, List.nil_append]
      rw [List.take_append_of_le_length ba, List.drop_append_of_le_length ao, List.flatten_append, List.flatten_append, FA _ _ aq, Jr _ _ aq]
      simp only [List.append_assoc]
    have aj : (vss.take m ++ (aa.take q ++ vss.drop (m + q))).flatten.length = xs.length * sz := by
      rw [DB (ab.lens hR), ab.length, ar]
    simp only [List.toList_toArray] at *
    rw [ah, hq]
    have hk := k [(g', .cells (pre ++ (vss.take m ++ (aa.take q ++ vss.drop (m + q))).flatten ++ sp).toArray E (0, 0))] ⟨fun p hp => by rw [List.mem_singleton.1 hp]; exact h3 (g', .cells (pre ++ vss.flatten ++ sp).toArray E (0, 0)) (List.mem_cons_self ..), ar.symm, _, ab, aj, ab.OE hR, .inr ⟨g', cap, pre, sp, rfl, h8, h9, by rw [aj, ← al]; exact aw, rfl⟩⟩
    exact Mk hZ hp hk
theorem PZ {F0 : FS} {T E : TypeId} {x y : Operand} {nb sz n : Nat} {h : Int} (hT : P.underlying T = some (.slice E)) (hE : ∀ w, (sizeOf E).run P w = .ok sz w) (hx : ev e x = some (.slice a n cap)) (hy : ev e y = some (.int .i64 h)) (aa : AI nb E sz R F0 a n cap xs Lb) (g : 0 ≤ h ∧ h ≤ (xs.length : Int)) :
    Fb P N K e F L (.slice T x none (some y) none) ty (.slice a h.toNat cap) := by
  have hc := aa.A1
  refine Fb.eq (I3 (l := 0) (h := h) hT hE hx (.inl ⟨rfl, rfl⟩) (.inr ⟨_, rfl, hy⟩) (by omega)) ?_
  have e1 : (if cap = (0 : Int).toNat then a else a.map (·.add ((0 : Int).toNat * sz))) = a := by
    cases a with
    | none => simp
    | some a => simp [Addr.add]
  simp only [Int.toNat_zero, Nat.sub_zero] at *
  first
  | rfl
  | (rw [show (if cap = 0 then a else a.map (·.add (0 * sz))) = a from e1])
theorem Om.one {T : TypeId} {v : Value} {x : Option α} (h : Om T R F v x) : v.oneCell' = true := by
  cases x with
  | none => rw [show v = .pointer none from h]; rfl
  | some x => obtain ⟨b, c, m, rfl, _⟩ := h; rfl
end
section
variable {P : Program} {N : Nat} {K : Ctx} {e : Env} {F : FS} {L : LH} {ty : TypeId} {κ δ : Type} {ek : κ → Value} {ed : δ → Value}
end
section
variable {κ δ : Type}
end
section
variable {P : Program} {N : Nat} {K : Ctx} {fn : Func} {R : FS → LH → Value → Prop} {e : Env} {F : FS} {L : LH}
end
end Go.SH
