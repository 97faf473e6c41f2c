/- The calculus, part W: a list that is copied onto its own end. -/
import Derived.Test.YtfmapnhfamoecabGreatZQShV
namespace Go.SH
section
variable {α : Type} {R : Ic α} {P : Program} {N : Nat} {r : Option Nat} {K : Ctx} {ops : Array Oper} {Q : Env → FS → LH → Prop} {rest : List Oper} {e : Env} {F : FS} {L Lb : LH} {C : LH → LH}
variable {ty : TypeId} {pos : String} {after : Array Edge} {d : Option Nat} {a : Option Addr} {cap : Nat} {xs zs : List α}
theorem Vi {T T2 E : TypeId} {x y : Operand} {nb sz bytes n c2 : Nat} {z : Value} {l : Int} (hd : DX N d = true) (hT : Gw P T E sz z bytes) (hR : Dv sz R) (hx : ev e x = some (.slice (Tu a cap l.toNat sz) (n - l.toNat) (cap - l.toNat))) (hy : ev e y = some (.slice a l.toNat c2))
    (hZ : ∀ X, Zip L Lb (C X) X) (ae : AT nb E sz R F a n cap xs Lb) (hl : 0 ≤ l ∧ l < (xs.length : Int)) (hz : zs = xs.take l.toNat ++ (xs.take (Nat.min l.toNat (xs.length - l.toNat)) ++ xs.drop (l.toNat + Nat.min l.toNat (xs.length - l.toNat))))
    (k : ∀ Lb', AT nb E sz R F a n cap zs Lb' → Ds P N r K ops Q rest (e.put d (.int .i64 (Nat.min l.toNat (xs.length - l.toNat) : Nat))) F (C Lb')) :
    Ds P N r K ops Q (⟨d, .call ⟨.builtin .copy, #[x, y], #[T, T2]⟩, ty, pos, after, none⟩ :: rest) e F L := by
  obtain rfl := ae.C4.1
  obtain ⟨Lr, hp, _⟩ := Zip.one hZ []
  refine Dl hp ?_
  generalize bb : l.toNat = m at *
  have hm : m < xs.length := by omega
  obtain ⟨_, aa, h5, h6⟩ := ae.src (R := R) (L := Lb ++ Lr) (Lr := Lr) (.refl _)
  have aj := h5.lens hR
  generalize hq : Nat.min m (xs.length - m) = q at *
  have bc : q ≤ m := by rw [← hq]; exact Nat.min_le_left _ _
  have bg : q ≤ xs.length - m := by rw [← hq]; exact Nat.min_le_right _ _
  have ad : Src F (Lb ++ Lr) sz a q (aa.take q).flatten := by
    obtain ⟨g1, g2, g3⟩ := h6
    have hlen : (aa.take q).length = q := by rw [List.length_take, h5.length]; omega
    have ai : (aa.take q).flatten.length = q * sz := by rw [C6 (fun vs hv => aj vs (List.mem_of_mem_take hv)), hlen]
    refine ⟨ai, ?_, ?_⟩
    · rw [Fm _ _ aj]; exact fun v hv => g2 v (List.mem_of_mem_take hv)
    · by_cases ar : q = 0
      · exact .inl ar
      · rcases g3 with g3 | ⟨b, o, c, g3, g4, g5, g6⟩
        · omega
        · have hle : q * sz ≤ xs.length * sz := Nat.mul_le_mul_right _ (by omega)
          refine .inr ⟨b, o, c, g3, g4, by omega, fun j hj => ?_⟩
          rw [g6 j (by omega), Fm _ _ aj, List.getElem?_take, if_pos (by omega)]
  obtain ⟨h3, _, vss, h4, ak, bh, h7⟩ := ae
  rcases h7 with ⟨a', hv, hn, rfl⟩ | ⟨g', au, pre, sp, hv, h8, h9, av, rfl⟩
  · omega
  · cases hv
    have ao := h4.lens hR
    have aw : ¬ cap = m := by
      intro he
      have bj := h8
      omega
    have ax : Tu (some ⟨g', pre.length, none⟩) cap m sz = some ⟨g', pre.length + m * sz, none⟩ := by simp [Tu, aw, Addr.add]
    rw [ax] at hx
    have bk : vss.length = xs.length := h4.length
    have bl : (xs.length - m) * sz + m * sz = xs.length * sz := by rw [← Nat.add_mul]; congr 1; omega
    have ah : Src F ([(g', Obj.cells (pre ++ vss.flatten ++ sp).toArray E (0, 0))] ++ Lr) sz (some ⟨g', pre.length, none⟩) (Nat.min m (xs.length - m)) (aa.take q).flatten := by rw [hq]; exact ad
    refine Vc (i := 0) (cs := (pre ++ vss.flatten ++ sp).toArray) hd hT hx hy rfl (by simp only [List.size_toArray, List.length_append]; omega) ah ?_
    have ab : Ew (R F) (vss.take m ++ (aa.take q ++ vss.drop (m + q))) zs := by
      rw [hz]
      exact (h4.take m).append ((h5.take q).append (h4.drop (m + q)))
    have aq : zs.length = xs.length := by
      rw [hz]; simp only [List.length_append, List.length_take, List.length_drop]; omega
    have af : (pre ++ vss.flatten ++ sp).take (pre.length + m * sz) ++ (aa.take q).flatten ++ (pre ++ vss.flatten ++ sp).drop (pre.length + m * sz + (aa.take q).flatten.length) = pre ++ (vss.take m ++ (aa.take q ++ vss.drop (m + q))).flatten ++ sp := by
      have ay := ad.1
      have az : m * sz ≤ vss.flatten.length := by rw [ak]; exact Nat.mul_le_mul_right _ (by omega)
      have ba : m * sz + q * sz = (m + q) * sz := by rw [Nat.add_mul]
      have al : (m + q) * sz ≤ vss.flatten.length := by rw [ak]; exact Nat.mul_le_mul_right _ (by omega)
      rw [ay, Nat.add_assoc pre.length, ba, List.append_assoc pre, List.take_append, List.take_of_length_le (Nat.le_add_right ..), show pre.length + m * sz - pre.length = m * sz by omega, List.drop_append, List.drop_eq_nil_of_le (Nat.le_add_right ..), show pre.length + (m + q) * sz - pre.length = (m + q) * sz by omega, List.nil_append]
      rw [List.take_append_of_le_length az, List.drop_append_of_le_length al, List.flatten_append, List.flatten_append, Fm _ _ ao, I0 _ _ ao]
      simp only [List.append_assoc]
    have ai : (vss.take m ++ (aa.take q ++ vss.drop (m + q))).flatten.length = xs.length * sz := by
      rw [C6 (ab.lens hR), ab.length, aq]
    simp only [List.toList_toArray] at *
    rw [af, hq]
    have hk := k [(g', .cells (pre ++ (vss.take m ++ (aa.take q ++ vss.drop (m + q))).flatten ++ sp).toArray E (0, 0))] ⟨fun p hp => by rw [List.mem_singleton.1 hp]; exact h3 (g', .cells (pre ++ vss.flatten ++ sp).toArray E (0, 0)) (List.mem_cons_self ..), aq.symm, _, ab, ai, ab.PK hR, .inr ⟨g', cap, pre, sp, rfl, h8, h9, by rw [ai, ← ak]; exact av, rfl⟩⟩
    exact Md hZ hp hk
theorem SI {F0 : FS} {T E : TypeId} {x y : Operand} {nb sz n : Nat} {h : Int} (hT : P.underlying T = some (.slice E)) (hE : ∀ w, (sizeOf E).run P w = .ok sz w) (hx : ev e x = some (.slice a n cap)) (hy : ev e y = some (.int .i64 h)) (aa : AT nb E sz R F0 a n cap xs Lb) (g : 0 ≤ h ∧ h ≤ (xs.length : Int)) :
    E7 P N K e F L (.slice T x none (some y) none) ty (.slice a h.toNat cap) := by
  have hc := aa.C4
  refine E7.eq (Ku (l := 0) (h := h) hT hE hx (.inl ⟨rfl, rfl⟩) (.inr ⟨_, rfl, hy⟩) (by omega)) ?_
  have e1 : (if cap = (0 : Int).toNat then a else a.map (·.add ((0 : Int).toNat * sz))) = a := by
    cases a with
    | none => simp
    | some a => simp [Addr.add]
  simp only [Int.toNat_zero, Nat.sub_zero] at *
  first
  | rfl
  | (rw [show (if cap = 0 then a else a.map (·.add (0 * sz))) = a from e1])
theorem MU.one {T : TypeId} {v : Value} {x : Option α} (h : MU T R F v x) : v.oneCell' = true := by
  cases x with
  | none => rw [show v = .pointer none from h]; rfl
  | some x => obtain ⟨b, c, m, rfl, _⟩ := h; rfl
end
section
variable {P : Program} {N : Nat} {K : Ctx} {e : Env} {F : FS} {L : LH} {ty : TypeId} {κ δ : Type} {ek : κ → Value} {ed : δ → Value}
theorem Xz {T TK TE : TypeId} {x : Operand} {b : Nat} {es : Array MapEntry} {m : List (κ × δ)} (hT : P.underlying T = some (.map TK TE)) (hx : ev e x = some (.map (some b))) (hm : Kw F L b es) (hR : Eb ek ed es m) : E7 P N K e F L (.call ⟨.builtin .len, #[x], #[T]⟩) ty (.int .i64 (m.length : Int)) := fun M a w d pos after g ha hs => by
  obtain ⟨cl, hh⟩ := hm.heap hs
  have hl : es.size = m.length := by have := congrArg List.length hR.1; simpa using this
  simp [execOp, resolve, invoke, builtin, Builtin.len_, run_underlying hT, ha.ev hx, goInt, Hp hh, hl]
end
end Go.SH
