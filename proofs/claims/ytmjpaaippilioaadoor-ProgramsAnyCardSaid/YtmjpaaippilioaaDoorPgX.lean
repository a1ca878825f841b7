import Derived.Test.YtmjpaaippilioaaDoorPgF
namespace Go.Proofs.YtmjpaaippilioaaDoor
open Go.RowKit Go.MapKept

/-! ### what a tidy program holds -/
def addK (l : List Th) (k : Th) : List Th := if k ∈ l then l else l ++ [k]
def delK (l : List Th) (k : Th) : List Th := l.filter fun p => p ≠ k
theorem mset_one (l : List Th) (k : Th) : mset (oneV l) k (.int .i64 1) = oneV (addK l k) := by
  unfold mset addK
  rw [oneV_fst]
  split
  · have : (fun p : Th × Value => if p.1 = k then (k, Value.int .i64 1) else p) ∘ (fun q : Th => (q, Value.int .i64 1)) = fun q => (q, Value.int .i64 1) := by
      funext q
      show (if q = k then (k, Value.int .i64 1) else (q, Value.int .i64 1)) = _
      split
      · rename_i e; rw [e]
      · rfl
    rw [List.map_map, this]
  · show oneV l ++ [(k, Value.int .i64 1)] = (l ++ [k]).map fun k => (k, Value.int .i64 1)
    rw [List.map_append]
    rfl
theorem mdel_one (l : List Th) (k : Th) : mdel (oneV l) k = oneV (delK l k) := by
  unfold mdel delK
  rw [List.filter_map]
  rfl
theorem mget_one (l : List Th) (k : Th) : mget (oneV l) k = if k ∈ l then some (.int .i64 1) else none := by
  unfold mget
  induction l with
  | nil => rfl
  | cons a r ih =>
    by_cases h : a = k
    · show ((((a, Value.int .i64 1) :: oneV r).find? fun p => p.1 = k).map (·.2)) = _
      rw [List.find?_cons_of_pos (by simpa using h), if_pos (by rw [h]; exact List.mem_cons_self)]
      rfl
    · show ((((a, Value.int .i64 1) :: oneV r).find? fun p => p.1 = k).map (·.2)) = _
      rw [List.find?_cons_of_neg (by simpa using h), ih]
      by_cases hr : k ∈ r
      · rw [if_pos hr, if_pos (List.mem_cons_of_mem _ hr)]
      · rw [if_neg hr, if_neg (fun hm => by rcases List.mem_cons.1 hm with e | e; exact h e.symm; exact hr e)]
theorem look77 {w : World} {b : Nat} {l : List Th} (h : MpS w th2V b (oneV l)) (k : Th) : (Instr.lookup 93 (.map (some b)) (th2V k) false).run Tryd.prog w = .ok (.int .i64 (if k ∈ l then 1 else 0)) w := by
  rw [h.toK.lookup thL2 (by kernel_rfl) (by kernel_rfl : (zeroValue 3).run Tryd.prog w = .ok (.int .i64 0) w) k, mget_one]
  split <;> rfl
def Nx (b : Nat) (x : OpR) (r : Bool) (l' : List Th) (w : World) : Prop :=
  Calls Tryd.prog 62 #[.map (some b), x.V] w fun e w' => e = .returned (.bool r) ∧ MpS w' th2V b (oneV l') ∧ Frm w w' fun j => j = b
end Go.Proofs.YtmjpaaippilioaaDoor
