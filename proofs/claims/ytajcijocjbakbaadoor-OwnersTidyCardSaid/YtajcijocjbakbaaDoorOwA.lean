import Derived.Test.YtajcijocjbakbaaDoorMpr
import Derived.Test.YtajcijocjbakbaaDoorChecked
import Derived.WideKeyRuns
import Derived.DeepKeys3
import Derived.BigQuiet
namespace Go.Proofs.YtajcijocjbakbaaDoor
open Go.RowKit Go.MapKept

/-! ### a map by things -/
/-- A thing: whose, at which address. -/
abbrev Th := Int × Int
abbrev thV (k : Th) : Value := .agg #[.int .i64 k.1, .int .u32 k.2]
theorem eq58 (a b a' b' : Int) (w : World) : (Op.equal 58 (thV (a, b)) (thV (a', b'))).run Tryd.prog w = .ok (a == a' && b == b') w := by
  unfold Op.equal
  rw [show Op.maxDepth = 9999 + 1 from rfl, run_equalIn_agg _ 9999 58 _ _ (by kernel_rfl) (by kernel_rfl)]
  simp [Program.fieldsOf, Tryd.underlying58, Op.eqFields, go_sem]
  go_simp
  by_cases h : a = a' <;> by_cases h2 : b = b' <;> simp [h, h2]
theorem check58 (w : World) (em : Bool) (k : Th) : (Instr.checkKey em 10000 58 (thV k)).run Tryd.prog w = .ok () w := by
  kernel_rfl
theorem find58 (w : World) (k : Th) : ∀ (es : List MapEntry) (l : List Th) (i : Nat), es.map (·.key) = l.map thV →
    ((Instr.findAsking 58 (thV k) es i).run Tryd.prog w = .ok none w ∧ k ∉ l) ∨ ∃ j e, (Instr.findAsking 58 (thV k) es i).run Tryd.prog w = .ok (some (i + j, e.val)) w ∧ es[j]? = some e ∧ l[j]? = some k
  | [], [], i, _ => .inl ⟨rfl, by simp⟩
  | [], _ :: _, i, h => by cases h
  | _ :: _, [], i, h => by cases h
  | e :: es, a :: l, i, h => by
    injection h with h1 h2
    have h1 : e.key = thV a := h1
    have he : (Op.equal 58 (thV k) e.key).run Tryd.prog w = .ok (k.1 == a.1 && k.2 == a.2) w := by rw [h1]; exact eq58 k.1 k.2 a.1 a.2 w
    by_cases hk : k = a
    · subst hk
      refine .inr ⟨0, e, ?_, rfl, rfl⟩
      unfold Instr.findAsking
      simp only [Sem.run_bind, he, Result.andThen_ok]
      simp
    · have hb : (k.1 == a.1 && k.2 == a.2) = false := by
        cases hx : (k.1 == a.1 && k.2 == a.2) with
        | false => rfl
        | true =>
          simp at hx
          exact absurd (Prod.ext hx.1 hx.2) hk
      rw [hb] at he
      have hrun : (Instr.findAsking 58 (thV k) (e :: es) i).run Tryd.prog w = (Instr.findAsking 58 (thV k) es (i + 1)).run Tryd.prog w := by
        conv => lhs; unfold Instr.findAsking
        simp only [Sem.run_bind, he, Result.andThen_ok]
        simp
      rw [hrun]
      rcases find58 w k es l (i + 1) h2 with ⟨q1, q2⟩ | ⟨j, x, q1, q2, q3⟩
      · exact .inl ⟨q1, by simp [hk, q2]⟩
      · exact .inr ⟨j + 1, x, by rw [q1]; congr 3; omega, q2, q3⟩
/-- Keys that are things. -/
theorem thL : KeyL Tryd.prog 58 thV where
  check := check58
  find := fun w k es l h => by
    rw [run_findKey_eq w (by kernel_rfl)]
    rcases find58 w k es l 0 h with h | ⟨j, e, h1, h2, h3⟩
    · exact .inl h
    · exact .inr ⟨j, e, by rw [h1, Nat.zero_add], h2, h3⟩
  bits := fun k => by simp [Instr.sameBits]
/-! ### delete -/
theorem mget_del {κ : Type} [DecidableEq κ] (l : List (κ × Value)) (k k' : κ) : mget (mdel l k) k' = if k' = k then none else mget l k' := by
  unfold mget mdel
  induction l with
  | nil => split <;> rfl
  | cons p r ih =>
    by_cases h : p.1 = k
    · rw [List.filter_cons_of_neg (by simpa using h), ih]
      by_cases h2 : k' = k
      · rw [if_pos h2, if_pos h2]
      · rw [if_neg h2, if_neg h2, List.find?_cons_of_neg (by simp; exact fun e => h2 (e.symm.trans h))]
    · rw [List.filter_cons_of_pos (by simpa using h)]
      by_cases h3 : p.1 = k'
      · rw [List.find?_cons_of_pos (by simpa using h3), List.find?_cons_of_pos (by simpa using h3)]
        rw [if_neg (fun e => h (h3.trans e))]
      · rw [List.find?_cons_of_neg (by simpa using h3), List.find?_cons_of_neg (by simpa using h3)]
        exact ih
theorem mget_set {κ : Type} [DecidableEq κ] (l : List (κ × Value)) (k k' : κ) (v : Value) : mget (mset l k v) k' = if k' = k then some v else mget l k' := by
  unfold mset
  by_cases hm : k ∈ l.map (·.1)
  · rw [if_pos hm]
    unfold mget
    induction l with
    | nil => cases hm
    | cons p r ih =>
      by_cases h : p.1 = k
      · by_cases h2 : k' = k
        · rw [List.map_cons, if_pos h, List.find?_cons_of_pos (by simp [h2]), if_pos h2]
          rfl
        · rw [List.map_cons, if_pos h, List.find?_cons_of_neg (by simpa using fun e => h2 e.symm), if_neg h2, List.find?_cons_of_neg (by simpa using fun e => h2 (e.symm.trans h))]
          by_cases hr : k ∈ r.map (·.1)
          · have := ih hr
            rw [if_neg h2] at this
            exact this
          · have e : (r.map fun p => if p.1 = k then (k, v) else p) = r := by
              conv => rhs; rw [← List.map_id r]
              refine List.map_congr_left fun q hq => if_neg fun e => hr (List.mem_map.2 ⟨q, hq, e⟩)
            rw [e]
      · have hr : k ∈ r.map (·.1) := by
          rcases List.mem_cons.1 hm with e | e
          · exact absurd e.symm h
          · exact e
        rw [List.map_cons, if_neg h]
        by_cases h3 : p.1 = k'
        · rw [List.find?_cons_of_pos (by simpa using h3), List.find?_cons_of_pos (by simpa using h3), if_neg (fun e => h (h3.trans e))]
        · rw [List.find?_cons_of_neg (by simpa using h3), List.find?_cons_of_neg (by simpa using h3)]
          exact ih hr
  · rw [if_neg hm]
    unfold mget
    rw [List.find?_append]
    by_cases h2 : k' = k
    · rw [if_pos h2, List.find?_eq_none.2 (fun p hp => by simp; exact fun e => hm (List.mem_map.2 ⟨p, hp, e.trans h2⟩))]
      simp [h2]
    · rw [if_neg h2]
      have : ¬ k = k' := fun e => h2 e.symm
      cases l.find? (fun p => p.1 = k') <;> simp [this]
theorem mdel_erase {κ : Type} [DecidableEq κ] (l : List (κ × Value)) (k : κ) (j : Nat) (hn : (l.map (·.1)).Nodup) (h : (l.map (·.1))[j]? = some k) : mdel l k = l.eraseIdx j := by
  induction l generalizing j with
  | nil => cases h
  | cons p r ih =>
    rw [List.map_cons, List.nodup_cons] at hn
    cases j with
    | zero =>
      injection h with h
      unfold mdel
      rw [List.filter_cons_of_neg (by simpa using h), List.eraseIdx_cons_zero, List.filter_eq_self]
      intro q hq
      simp
      exact fun e => hn.1 (List.mem_map.2 ⟨q, hq, e.trans h.symm⟩)
    | succ j =>
      have hr : (r.map (·.1))[j]? = some k := by simpa using h
      have hne : p.1 ≠ k := fun e => hn.1 (by rw [e]; exact List.mem_of_getElem? hr)
      unfold mdel
      rw [List.filter_cons_of_pos (by simpa using hne), List.eraseIdx_cons_succ]
      congr 1
      exact ih j hn.2 hr
theorem map_erase {α β : Type} (f : α → β) (l : List α) (j : Nat) : (l.eraseIdx j).map f = (l.map f).eraseIdx j := by
  induction l generalizing j with
  | nil => rfl
  | cons a r ih =>
    cases j with
    | zero => rfl
    | succ j => rw [List.eraseIdx_cons_succ, List.map_cons, List.map_cons, List.eraseIdx_cons_succ, ih]
section
variable {κ : Type} [DecidableEq κ] {P : Program} {K : TypeId} {kv : κ → Value} {w : World} {b : Nat} {l : List (κ × Value)}
/-- 'delete(m, k)'. -/
theorem MpK.delete (h : MpK w kv b l) (L : KeyL P K kv) {t e ty k2 : TypeId} (ht : P.underlying t = some (.map K e)) (k : κ) :
    ∃ w', (Builtin.delete_ #[t, k2] ty #[.map (some b), kv k]).run P w = .ok (.tuple #[]) w' ∧ MpK w' kv b (mdel l k) ∧ Frm w w' fun j => j = b := by
  obtain ⟨hn, es, clock, hb, he⟩ := h
  have hkeys := keys_of he
  have frm : ∀ o, Frm w { w with heap := w.heap.setIfInBounds b o } fun j => j = b := fun o => ⟨rfl, rfl, rfl, by simp, fun j _ hj => by simp [Ne.symm hj]⟩
  have hnd : ((mdel l k).map (·.1)).Nodup := by
    unfold mdel
    exact (List.Sublist.map _ (List.filter_sublist)).nodup hn
  unfold Builtin.delete_
  rcases L.find w k es.toList (l.map (·.1)) hkeys with ⟨h1, h2⟩ | ⟨j, x, h1, h2, h3⟩
  · simp only [Sem.run_bind, run_underlying ht, Result.andThen_ok, Go.MapKept.run_getObj_map (P := P) hb, L.check, h1, Go.MapKept.run_setObj_map (P := P) _ hb, Sem.run_pure, List.getElem?_toArray, List.getElem?_cons_zero, List.getElem?_cons_succ]
    refine ⟨_, rfl, ⟨hnd, _, _, (heap_set hb).1, ?_⟩, frm _⟩
    have : mdel l k = l := by
      unfold mdel
      rw [List.filter_eq_self]
      intro p hp
      simp
      exact fun e => h2 (List.mem_map.2 ⟨p, hp, e⟩)
    rw [this]
    exact he
  · simp only [Sem.run_bind, run_underlying ht, Result.andThen_ok, Go.MapKept.run_getObj_map (P := P) hb, L.check, h1, Go.MapKept.run_setObj_map (P := P) _ hb, Sem.run_pure, List.getElem?_toArray, List.getElem?_cons_zero, List.getElem?_cons_succ]
    refine ⟨_, rfl, ⟨hnd, _, _, (heap_set hb).1, ?_⟩, frm _⟩
    have hj : j < es.size := by have := (List.getElem?_eq_some_iff.1 h2).1; simpa using this
    rw [mdel_erase l k j hn h3, map_erase, ← he, ← map_erase]
    congr 1
    simp [Array.eraseIdxIfInBounds, hj]
end
end Go.Proofs.YtajcijocjbakbaaDoor
