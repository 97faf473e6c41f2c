/- The calculus, part YG: still more short forms. -/
import Derived.Test.YtbeeigejcihadaaGreatZRYF
import Derived.Test.YtbeeigejcihadaaGreatZRShK
namespace Go.SH
theorem kP : Cr 2 (DZ (iE .i64) (iE .i64)) := BW (Be _) (Be _)
theorem kN : Cr 3 (DZ (GM 1 (iE .i64)) (DZ (iE .i64) (iE .i64))) := BW (AT (Be _)) kP
abbrev eP : Hp (Int × Int) := DZ (iE .i64) (iE .i64)
abbrev eN : Hp (List Int × Int × Int) := DZ (GM 1 (iE .i64)) (DZ (iE .i64) (iE .i64))
section
variable {F F' : FS} {a : Option Addr} {nb E n cap : Nat} {Lb : LH}
theorem Ar.m3 {xs : List (List Int × Int × Int)} (h : Ar 3 (DZ (GM 1 (iE .i64)) (DZ (iE .i64) (iE .i64))) F a cap xs) (hF : AN F F') : Ar 3 (DZ (GM 1 (iE .i64)) (DZ (iE .i64) (iE .i64))) F' a cap xs := h.mono kN hF
theorem Ar.m4 {xs : List (Int × Int)} (h : Ar 2 (DZ (iE .i64) (iE .i64)) F a cap xs) (hF : AN F F') : Ar 2 (DZ (iE .i64) (iE .i64)) F' a cap xs := h.mono kP hF
theorem AM.m3 {xs : List (List Int × Int × Int)} (h : AM nb E 3 (DZ (GM 1 (iE .i64)) (DZ (iE .i64) (iE .i64))) F a n cap xs Lb) (hF : AN F F') : AM nb E 3 (DZ (GM 1 (iE .i64)) (DZ (iE .i64) (iE .i64))) F' a n cap xs Lb := h.mono kN hF
theorem AM.m4 {xs : List (Int × Int)} (h : AM nb E 2 (DZ (iE .i64) (iE .i64)) F a n cap xs Lb) (hF : AN F F') : AM nb E 2 (DZ (iE .i64) (iE .i64)) F' a n cap xs Lb := h.mono kP hF
theorem Ar.oI {b m : Nat} {xs : List Int} {c : Array Value} {E : TypeId} {q : Nat × Nat} (hF : F b = some (.cells c E q)) (hn : xs.length = m := by exact rfl) (hc : (xs.map fun x => (.int .i64 x : Value)).toArray = c := by exact rfl) (hm : xs.length ≤ maxLen := by simp [maxLen]) : Ar 1 (iE .i64) F (some ⟨b, 0, none⟩) m xs := by
  subst hn
  refine Ar.BD (Be _) (vss := xs.map fun x => [.int .i64 x]) hF ?_ ?_ hm
  · clear hm hc hF
    induction xs with
    | nil => exact .nil
    | cons x xs ih => exact .cons rfl ih
  · rw [← hc]
    congr 1
    clear hm hc hF
    induction xs with
    | nil => rfl
    | cons x xs ih => rw [List.map_cons, List.map_cons, List.flatten_cons, ← ih]; rfl
end
theorem aL {α : Type} {p : α → Prop} {A B : List α} (h : ∀ x ∈ A ++ B, p x) : ∀ x ∈ A, p x := fun x hx => h x (List.mem_append_left _ hx)
theorem aR {α : Type} {p : α → Prop} {A B : List α} (h : ∀ x ∈ A ++ B, p x) : ∀ x ∈ B, p x := fun x hx => h x (List.mem_append_right _ hx)
theorem my {α : Type} {a b : α} {l : List α} (h : a ∈ l) : a ∈ b :: l := List.mem_cons_of_mem _ h
theorem mz {α : Type} {a : α} {l : List α} : a ∈ a :: l := List.mem_cons_self ..
section
variable {P : Program} {N : Nat} {r : Option Nat} {K : Ctx} {ops : Array Oper} {Q : Env → FS → LH → Prop} {e : Env} {F : FS} {L : LH} {ty T E S : TypeId} {x y : Operand} {pos : String} {after : Array Edge} {b o n m sz : Nat} {c cs : Array Value} {v : Value} {q : Nat × Nat} {a0 : Option Addr} {i : Int}
theorem BM (hT : ∀ w, (isAgg T).run P w = .ok false w) (i : Nat) (hx : ev e x = some (.pointer (some ⟨b, o, none⟩)) := by exact rfl) (hi : L[i]? = some (b, .cells c E q) := by exact rfl) (hv : c[o]? = some v := by exact rfl) : Ee P N K e F L (.load T x) ty v := AG hT hx (Has.own i hi) hv
theorem CA (hT : ∀ w, (isAgg T).run P w = .ok true w) (hn : ∀ w, (sizeOf T).run P w = .ok n w) (i : Nat) (hx : ev e x = some (.pointer (some ⟨b, o, none⟩)) := by exact rfl) (hi : L[i]? = some (b, .cells c E q) := by exact rfl) (hle : o + n ≤ c.size := by exact B2 rfl) (hv : c.extract o (o + n) = cs := by exact rfl) : Ee P N K e F L (.load T x) ty (.agg cs) := AZ hT hn hx (Has.own i hi) hle hv
theorem Cx (hT : P.underlying T = some (.slice S)) (hE : ∀ w, (sizeOf S).run P w = .ok sz w) (aa : a0 = some ⟨b, o, none⟩) (hi : 0 ≤ i ∧ i < n) (hx : ev e x = some (.slice a0 n m) := by exact rfl) (hy : ev e y = some (.int .i64 i) := by exact rfl) : Ee P N K e F L (.indexAddr T x y) ty (.pointer (some ⟨b, o + i.toNat * sz, none⟩)) := BQ hT hE hx aa hy hi
theorem Px {k : Int} (hc : i = k) (hT : P.underlying T = some (.slice S)) (hE : ∀ w, (sizeOf S).run P w = .ok sz w) (hx : ev e x = some (.slice (some ⟨b, o, none⟩) n m) := by exact rfl) (hy : ev e y = some (.int .i64 i) := by exact rfl) (hk : 0 ≤ k ∧ k < n := by decide) : Ee P N K e F L (.indexAddr T x y) ty (.pointer (some ⟨b, o + k.toNat * sz, none⟩)) := by
  subst hc
  exact EM hT hE hx hy hk
variable {l : List (Kd × Nat)} {done : List Rec} {j d : Nat}
theorem mK (ts : List Nat) (hT : ∀ w, (isAgg T).run P w = .ok false w) (i : Nat) (ho : ops[j]? = some ⟨some d, .load T x, ty, pos, after, none⟩) (hi : L[i]? = some (b, .cells c E q)) (hx : ev (pick e ts) x = some (.pointer (some ⟨b, o, none⟩))) (hv : c[o]? = some v) (k : M0 P N r K ops Q l ((d, v) :: e) F L (⟨j, ⟨some d, .load T x, ty, pos, after, none⟩, d, pick e ts, v, F, [(b, .cells c E q)]⟩ :: done)) (hd : Nat.ble (d + 1) N = true := by exact rfl) (hf : e.get d = none := by exact rfl) (aa : ts.all (fun t => (e.get t).isSome) = true := by exact rfl) (ab : Lj ops j (pick e ts) done = true := by kernel_rfl) : M0 P N r K ops Q ((.still, j) :: l) e F L done :=
  FV (Ls := [(b, .cells c E q)]) ho rfl hd hf (Lk aa) ab (fun p hp => by rw [List.mem_singleton.1 hp]; exact List.mem_of_getElem? hi) (fun _ _ _ ad ae => AG hT hx ((Has.own 0 rfl).ext ad ae) hv) k
theorem mA (ts : List Nat) (hT : ∀ w, (isAgg T).run P w = .ok true w) (hn : ∀ w, (sizeOf T).run P w = .ok n w) (i : Nat) (ho : ops[j]? = some ⟨some d, .load T x, ty, pos, after, none⟩) (hi : L[i]? = some (b, .cells c E q)) (hx : ev (pick e ts) x = some (.pointer (some ⟨b, o, none⟩))) (hv : c.extract o (o + n) = cs) (k : M0 P N r K ops Q l ((d, .agg cs) :: e) F L (⟨j, ⟨some d, .load T x, ty, pos, after, none⟩, d, pick e ts, .agg cs, F, [(b, .cells c E q)]⟩ :: done)) (hle : o + n ≤ c.size := by exact B2 rfl) (hd : Nat.ble (d + 1) N = true := by exact rfl) (hf : e.get d = none := by exact rfl) (aa : ts.all (fun t => (e.get t).isSome) = true := by exact rfl) (ab : Lj ops j (pick e ts) done = true := by kernel_rfl) : M0 P N r K ops Q ((.still, j) :: l) e F L done :=
  FV (Ls := [(b, .cells c E q)]) ho rfl hd hf (Lk aa) ab (fun p hp => by rw [List.mem_singleton.1 hp]; exact List.mem_of_getElem? hi) (fun _ _ _ ad ae => AZ hT hn hx ((Has.own 0 rfl).ext ad ae) hle hv) k
end
end Go.SH
