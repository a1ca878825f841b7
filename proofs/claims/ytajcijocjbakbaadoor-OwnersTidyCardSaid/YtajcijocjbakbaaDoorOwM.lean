import Derived.Test.YtajcijocjbakbaaDoorOwJ
import Derived.Test.YtajcijocjbakbaaDoorOwK
import Derived.Test.YtajcijocjbakbaaDoorOwL
import Derived.ChangeKeysEq
namespace Go.Proofs.YtajcijocjbakbaaDoor
open Go.RowKit

/-! ### the plain law of the holders -/
def KeysOk (l : List (Th × Value)) : Prop := (l.map (·.1)).Nodup ∧ ∀ p ∈ l, 0 ≤ p.1.1 ∧ p.1.1 ≤ 3
theorem keysOk_nil : KeysOk [] := ⟨List.nodup_nil, fun _ h => by cases h⟩
theorem Bk.nodup {w : World} {s : Nat} {g : Option Nat} {l : List (Th × Value)} (h : Bk w s g l) : (l.map (·.1)).Nodup := by
  cases g with
  | none => rw [h.nil rfl]; exact List.nodup_nil
  | some b => exact (h.map b rfl).1
theorem mset_len (l : List (Th × Value)) (k : Th) (v : Value) : (mset l k v).length ≤ l.length + 1 := by
  unfold mset
  split
  · rw [List.length_map]; omega
  · rw [List.length_append]; simp
theorem didL_len (U : Nat → Use) (A : Nat → Ask) (l : List (Th × Value)) (t : Int) (x : OpR) : (didL U A l t x).length ≤ l.length + 1 := by
  unfold didL
  split
  · split
    · exact Nat.le_trans (List.length_filter_le _ _) (by omega)
    · exact mset_len _ _ _
  · omega
theorem didL_keys (U : Nat → Use) (A : Nat → Ask) (l : List (Th × Value)) (t : Int) (x : OpR) (h0 : 0 ≤ t) (h3 : t ≤ 3) (h : ∀ p ∈ l, 0 ≤ p.1.1 ∧ p.1.1 ≤ 3) : ∀ p ∈ didL U A l t x, 0 ≤ p.1.1 ∧ p.1.1 ≤ 3 := by
  intro p hp
  unfold didL at hp
  split at hp
  · split at hp
    · exact h p (List.mem_filter.1 hp).1
    · unfold mset at hp
      split at hp
      · obtain ⟨q, hq, rfl⟩ := List.mem_map.1 hp
        split
        · exact ⟨h0, h3⟩
        · exact h q hq
      · rcases List.mem_append.1 hp with hp | hp
        · exact h p hp
        · rw [List.mem_singleton] at hp
          subst hp
          exact ⟨h0, h3⟩
  · exact h p hp
theorem ts_nodup (l : List (Th × Value)) (a : Int) (h : (l.map (·.1)).Nodup) : (ts l a).Nodup := by
  unfold ts
  induction l with
  | nil => exact List.nodup_nil
  | cons p r ih =>
    rw [List.map_cons, List.nodup_cons] at h
    by_cases hp : p.1.2 = a
    · rw [List.filter_cons_of_pos (by simpa using hp), List.map_cons, List.nodup_cons]
      refine ⟨fun hm => h.1 ?_, ih h.2⟩
      obtain ⟨q, hq, e⟩ := List.mem_map.1 hm
      obtain ⟨hq1, hq2⟩ := List.mem_filter.1 hq
      have hq2 : q.1.2 = a := by simpa using hq2
      exact List.mem_map.2 ⟨q, hq1, Prod.ext e (hq2.trans hp.symm)⟩
    · rw [List.filter_cons_of_neg (by simpa using hp)]
      exact ih h.2
theorem holders_ok {l : List (Th × Value)} {a : Int} {zs : List Int} (hk : KeysOk l) (hp : zs.Perm (ts l a)) (hs : zs.Pairwise fun x y => x ≤ y) :
    (∀ j (hj : j < zs.length), 0 ≤ zs[j] ∧ zs[j] ≤ 3) ∧ ∀ j (hj : j + 1 < zs.length), zs[j] < zs[j + 1] := by
  have hn : zs.Nodup := hp.nodup_iff.2 (ts_nodup l a hk.1)
  refine ⟨fun j hj => ?_, fun j hj => ?_⟩
  · have : zs[j] ∈ ts l a := hp.subset (List.getElem_mem hj)
    unfold ts at this
    obtain ⟨p, hp, e⟩ := List.mem_map.1 this
    rw [← e]
    exact hk.2 p (List.mem_filter.1 hp).1
  · have h1 := List.pairwise_iff_getElem.1 hs j (j + 1) (by omega) hj (by omega)
    have h2 := List.pairwise_iff_getElem.1 hn j (j + 1) (by omega) hj (by omega)
    omega
/-! ### equality of what is told -/
theorem neq29 (l : List (Th × Value)) (w : World) : (binOp .neq 29 (toldV l) (toldV l)).run Tryd.prog w = .ok (.bool false) w := by
  unfold toldV
  obtain ⟨i28, hi28⟩ : ∃ i, Tryd.prog.info? 28 = some i := by
    have : (Tryd.prog.info? 28).isSome = true := by kernel_rfl
    exact Option.isSome_iff_exists.1 this
  have hc : Tryd.prog.cellsOf 28 = 1 := by kernel_rfl
  have hr : List.range 4 = [0, 1, 2, 3] := by decide
  have hg : ∀ v, (isAgg 28).run Tryd.prog v = .ok false v := fun v => Tryd.isAgg28 v
  rw [run_neq_struct, show (10000 : Nat) = 9999 + 1 from rfl, run_equalIn_array w 9999 _ _ Tryd.underlying29 hi28, hc, hr]
  simp [Op.eqItems, part, hg, run_equalIn_int _ 9998 28 .u64 .u64 _ _ Tryd.underlying28]
theorem eqg29 (a b : Operand) (l : List (Th × Value)) (w : World) : (eqGuard .neq 29 a b (toldV l) (toldV l)).run Tryd.prog w = .ok () w :=
  run_eqGuard_agg w .neq 29 a b _ _ (by kernel_rfl)
end Go.Proofs.YtajcijocjbakbaaDoor
