/- The calculus, part YF: more short forms, for long printed walks. -/
import Derived.Test.YtdhookifhfkcpaaGreatZBShX
namespace Go.SH
abbrev vI (x : Int) : Value := .int .i64 x
abbrev aD (b : Nat) : Option Addr := some ⟨b, 0, none⟩
abbrev pO (b : Nat) : Value := .pointer (some ⟨b, 0, none⟩)
abbrev sL (a : Option Addr) (n c : Nat) : Value := .slice a n c
abbrev eI : Hf Int := iE .i64
abbrev eJ : Hf (List Int) := CM 1 (iE .i64)
theorem kI : Ck 1 (iE .i64) := Ke _
theorem kJ : Ck 1 (CM 1 (iE .i64)) := Ay (Ke _)
theorem At.ta {α : Type} {sz : Nat} {R : Hf α} (hR : Ck sz R) {F : FS} {a : Option Addr} {cap : Nat} {xs : List α} (h : At sz R F a cap xs) {i : Int} {x : α} (h0 : 0 ≤ i) (hi : xs[i.toNat]? = some x) :
    ∃ b o c vs, a = some ⟨b, o, none⟩ ∧ (∀ L, Has F L b c) ∧ o + i.toNat * sz + sz ≤ c.size ∧ R F vs x ∧ vs.length = sz ∧ ∀ j, j < sz → c[o + i.toNat * sz + j]? = vs[j]? := by
  obtain ⟨b, o, c, vs, h1, h2, h3, h4, h5, h6⟩ := At.at hR h [] h0 hi
  obtain ⟨E, m, hh⟩ := h2
  exact ⟨b, o, c, vs, h1, fun L => ⟨E, m, hh.elim .inl fun hm => absurd hm List.not_mem_nil⟩, h3, h4, h5, h6⟩
theorem At.m1 {F F' : FS} {k : IntKind} {a : Option Addr} {cap : Nat} {xs : List Int} (h : At 1 (iE k) F a cap xs) (hF : AQ F F') : At 1 (iE k) F' a cap xs := h.mono (Ke _) hF
theorem At.m2 {F F' : FS} {k : IntKind} {a : Option Addr} {cap : Nat} {xs : List (List Int)} (h : At 1 (CM 1 (iE k)) F a cap xs) (hF : AQ F F') : At 1 (CM 1 (iE k)) F' a cap xs := h.mono (Ay (Ke _)) hF
section
variable {F F' : FS} {k : IntKind} {a : Option Addr} {nb E Ei n cap i : Nat} {Lb Lc : LH}
theorem AI.m1 {xs : List Int} (h : AI nb E 1 (iE k) F a n cap xs Lb) (hF : AQ F F') : AI nb E 1 (iE k) F' a n cap xs Lb := h.mono (Ke _) hF
theorem AI.m2 {xs : List (List Int)} (h : AI nb E 1 (CM 1 (iE k)) F a n cap xs Lb) (hF : AQ F F') : AI nb E 1 (CM 1 (iE k)) F' a n cap xs Lb := h.mono (Ay (Ke _)) hF
theorem Ev.m1 {xs : List (List Int)} (h : Ev nb E Ei 1 (iE k) F a n cap xs Lb) (hF : AQ F F') : Ev nb E Ei 1 (iE k) F' a n cap xs Lb := h.mono (Ke _) hF
theorem Mz.m1 {hs : List Hd} {xs : List (List Int)} (h : Mz nb E 1 (iE k) F i hs xs Lc) (hF : AQ F F') : Mz nb E 1 (iE k) F' i hs xs Lc := h.mono (Ke _) hF
end
section
variable {P : Program} {N : Nat} {r : Option Nat} {K : Ctx} {ops : Array Oper} {Q : Env → FS → LH → Prop} {Qn : Env → Prop} {rest : List Oper} {e : Env} {F : FS} {L : LH} {d : Option Nat} {ty : TypeId} {pos : String} {after : Array Edge} {v : Value} {x : Operand} {xs : Array Operand} {MZ : Array TypeId} {f : FuncId} {first cap args : Array Value} {vs : List Value} {Lt Lr : LH}
theorem cT (hf : ∀ args w, (callFunc f args).run P w = .ok (.enter f args) w) (hL : L.Perm (Lt ++ Lr)) (aa : ∀ F', AQ F F' → (∀ p ∈ Lt, F' p.1 = some p.2) → Bp P f args F' v) (k : Ct P N r K ops Q rest (e.put d v) F L)
    (hd : CW N d = true := by exact rfl) (hx : ev e x = some (.func (.func f) first cap) := by exact rfl) (ad : xs.toList.mapM (ev e) = some vs := by exact rfl) (ab : first ++ vs.toArray ++ cap = args := by exact rfl) : Ct P N r K ops Q (⟨d, .call ⟨.value x, xs, MZ⟩, ty, pos, after, none⟩ :: rest) e F L := Bh hd hf hx ad ab hL aa k
end
end Go.SH
