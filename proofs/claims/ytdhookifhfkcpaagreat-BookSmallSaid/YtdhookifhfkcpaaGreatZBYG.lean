/- The calculus, part YG: still more short forms. -/
import Derived.Test.YtdhookifhfkcpaaGreatZBYF
import Derived.Test.YtdhookifhfkcpaaGreatZBShK
namespace Go.SH
theorem kP : Ck 2 (Br (iE .i64) (iE .i64)) := Ai (Ke _) (Ke _)
theorem kN : Ck 3 (Br (CM 1 (iE .i64)) (Br (iE .i64) (iE .i64))) := Ai (Ay (Ke _)) kP
abbrev eP : Hf (Int × Int) := Br (iE .i64) (iE .i64)
section
variable {F F' : FS} {a : Option Addr} {nb E n cap : Nat} {Lb : LH}
theorem At.m3 {xs : List (List Int × Int × Int)} (h : At 3 (Br (CM 1 (iE .i64)) (Br (iE .i64) (iE .i64))) F a cap xs) (hF : AQ F F') : At 3 (Br (CM 1 (iE .i64)) (Br (iE .i64) (iE .i64))) F' a cap xs := h.mono kN hF
theorem At.m4 {xs : List (Int × Int)} (h : At 2 (Br (iE .i64) (iE .i64)) F a cap xs) (hF : AQ F F') : At 2 (Br (iE .i64) (iE .i64)) F' a cap xs := h.mono kP hF
theorem AI.m3 {xs : List (List Int × Int × Int)} (h : AI nb E 3 (Br (CM 1 (iE .i64)) (Br (iE .i64) (iE .i64))) F a n cap xs Lb) (hF : AQ F F') : AI nb E 3 (Br (CM 1 (iE .i64)) (Br (iE .i64) (iE .i64))) F' a n cap xs Lb := h.mono kN hF
theorem AI.m4 {xs : List (Int × Int)} (h : AI nb E 2 (Br (iE .i64) (iE .i64)) F a n cap xs Lb) (hF : AQ F F') : AI nb E 2 (Br (iE .i64) (iE .i64)) F' a n cap xs Lb := h.mono kP hF
theorem At.oI {b m : Nat} {xs : List Int} {c : Array Value} {E : TypeId} {q : Nat × Nat} (hF : F b = some (.cells c E q)) (hn : xs.length = m := by exact rfl) (hc : (xs.map fun x => (.int .i64 x : Value)).toArray = c := by exact rfl) (hm : xs.length ≤ maxLen := by simp [maxLen]) : At 1 (iE .i64) F (some ⟨b, 0, none⟩) m xs := by
  subst hn
  refine At.Bd (Ke _) (vss := xs.map fun x => [.int .i64 x]) hF ?_ ?_ hm
  · clear hm hc hF
    induction xs with
    | nil => exact .nil
    | cons x xs ih => exact .cons rfl ih
  · rw [← hc]
    congr 1
    clear hm hc hF
    induction xs with
    | nil => rfl
    | cons x xs ih => rw [List.map_cons, List.map_cons, List.flatten_cons, ← ih]; rfl
end
theorem Ev.m2 {F F' : FS} {k : IntKind} {a : Option Addr} {nb E Ei n cap : Nat} {Lb : LH} {xs : List (List (List Int))} (h : Ev nb E Ei 1 (CM 1 (iE k)) F a n cap xs Lb) (hF : AQ F F') : Ev nb E Ei 1 (CM 1 (iE k)) F' a n cap xs Lb := h.mono (Ay (Ke _)) hF
theorem Mz.m2 {F F' : FS} {k : IntKind} {nb E i : Nat} {Lc : LH} {hs : List Hd} {xs : List (List (List Int))} (h : Mz nb E 1 (CM 1 (iE k)) F i hs xs Lc) (hF : AQ F F') : Mz nb E 1 (CM 1 (iE k)) F' i hs xs Lc := h.mono (Ay (Ke _)) hF
theorem aL {α : Type} {p : α → Prop} {A B : List α} (h : ∀ x ∈ A ++ B, p x) : ∀ x ∈ A, p x := fun x hx => h x (List.mem_append_left _ hx)
theorem aR {α : Type} {p : α → Prop} {A B : List α} (h : ∀ x ∈ A ++ B, p x) : ∀ x ∈ B, p x := fun x hx => h x (List.mem_append_right _ hx)
theorem my {α : Type} {a b : α} {l : List α} (h : a ∈ l) : a ∈ b :: l := List.mem_cons_of_mem _ h
theorem mz {α : Type} {a : α} {l : List α} : a ∈ a :: l := List.mem_cons_self ..
section
variable {P : Program} {N : Nat} {r : Option Nat} {K : Ctx} {ops : Array Oper} {Q : Env → FS → LH → Prop} {e : Env} {F : FS} {L : LH} {ty T E S : TypeId} {x y : Operand} {pos : String} {after : Array Edge} {b o n m sz : Nat} {c cs : Array Value} {v : Value} {q : Nat × Nat} {a0 : Option Addr} {i : Int}
theorem Co (hT : ∀ w, (isAgg T).run P w = .ok false w) (i : Nat) (hx : ev e x = some (.pointer (some ⟨b, o, none⟩)) := by exact rfl) (hi : L[i]? = some (b, .cells c E q) := by exact rfl) (hv : c[o]? = some v := by exact rfl) : Fb P N K e F L (.load T x) ty v := AS hT hx (Has.own i hi) hv
theorem Cv (hT : ∀ w, (isAgg T).run P w = .ok true w) (hn : ∀ w, (sizeOf T).run P w = .ok n w) (i : Nat) (hx : ev e x = some (.pointer (some ⟨b, o, none⟩)) := by exact rfl) (hi : L[i]? = some (b, .cells c E q) := by exact rfl) (hle : o + n ≤ c.size := by exact DD rfl) (hv : c.extract o (o + n) = cs := by exact rfl) : Fb P N K e F L (.load T x) ty (.agg cs) := Bn hT hn hx (Has.own i hi) hle hv
theorem C0 (hT : P.underlying T = some (.slice S)) (hE : ∀ w, (sizeOf S).run P w = .ok sz w) (aa : a0 = some ⟨b, o, none⟩) (hi : 0 ≤ i ∧ i < n) (hx : ev e x = some (.slice a0 n m) := by exact rfl) (hy : ev e y = some (.int .i64 i) := by exact rfl) : Fb P N K e F L (.indexAddr T x y) ty (.pointer (some ⟨b, o + i.toNat * sz, none⟩)) := BZ hT hE hx aa hy hi
theorem QM {k : Int} (hc : i = k) (hT : P.underlying T = some (.slice S)) (hE : ∀ w, (sizeOf S).run P w = .ok sz w) (hx : ev e x = some (.slice (some ⟨b, o, none⟩) n m) := by exact rfl) (hy : ev e y = some (.int .i64 i) := by exact rfl) (hk : 0 ≤ k ∧ k < n := by decide) : Fb P N K e F L (.indexAddr T x y) ty (.pointer (some ⟨b, o + k.toNat * sz, none⟩)) := by
  subst hc
  exact GG hT hE hx hy hk
variable {l : List (Kd × Nat)} {done : List Rec} {j d : Nat}
theorem mK (ts : List Nat) (hT : ∀ w, (isAgg T).run P w = .ok false w) (i : Nat) (ho : ops[j]? = some ⟨some d, .load T x, ty, pos, after, none⟩) (hi : L[i]? = some (b, .cells c E q)) (hx : ev (pick e ts) x = some (.pointer (some ⟨b, o, none⟩))) (hv : c[o]? = some v) (k : Nx P N r K ops Q l ((d, v) :: e) F L (⟨j, ⟨some d, .load T x, ty, pos, after, none⟩, d, pick e ts, v, F, [(b, .cells c E q)]⟩ :: done)) (hd : Nat.ble (d + 1) N = true := by exact rfl) (hf : e.get d = none := by exact rfl) (aa : ts.all (fun t => (e.get t).isSome) = true := by exact rfl) (ab : LY ops j (pick e ts) done = true := by kernel_rfl) : Nx P N r K ops Q ((.still, j) :: l) e F L done :=
  Qv (Ls := [(b, .cells c E q)]) ho rfl hd hf (LC aa) ab (fun p hp => by rw [List.mem_singleton.1 hp]; exact List.mem_of_getElem? hi) (fun _ _ _ ad ae => AS hT hx ((Has.own 0 rfl).ext ad ae) hv) k
theorem mA (ts : List Nat) (hT : ∀ w, (isAgg T).run P w = .ok true w) (hn : ∀ w, (sizeOf T).run P w = .ok n w) (i : Nat) (ho : ops[j]? = some ⟨some d, .load T x, ty, pos, after, none⟩) (hi : L[i]? = some (b, .cells c E q)) (hx : ev (pick e ts) x = some (.pointer (some ⟨b, o, none⟩))) (hv : c.extract o (o + n) = cs) (k : Nx P N r K ops Q l ((d, .agg cs) :: e) F L (⟨j, ⟨some d, .load T x, ty, pos, after, none⟩, d, pick e ts, .agg cs, F, [(b, .cells c E q)]⟩ :: done)) (hle : o + n ≤ c.size := by exact DD rfl) (hd : Nat.ble (d + 1) N = true := by exact rfl) (hf : e.get d = none := by exact rfl) (aa : ts.all (fun t => (e.get t).isSome) = true := by exact rfl) (ab : LY ops j (pick e ts) done = true := by kernel_rfl) : Nx P N r K ops Q ((.still, j) :: l) e F L done :=
  Qv (Ls := [(b, .cells c E q)]) ho rfl hd hf (LC aa) ab (fun p hp => by rw [List.mem_singleton.1 hp]; exact List.mem_of_getElem? hi) (fun _ _ _ ad ae => Bn hT hn hx ((Has.own 0 rfl).ext ad ae) hle hv) k
end
end Go.SH
