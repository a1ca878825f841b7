import Derived.Test.YtmjpaaippilioaaDoorSlc
import Derived.Test.YtmjpaaippilioaaDoorChecked
import Derived.WideKeyRuns
import Derived.DeepKeys3
import Derived.BigQuiet
import Derived.Maps.OwnOps
import Derived.Maps.OwnSet
namespace Go.Proofs.YtmjpaaippilioaaDoor
open Go.RowKit Go.MapKept

/-! ### a map, as the list of its entries -/
section
variable {κ : Type} [DecidableEq κ]
/-- The law of a map's keys: kv k is the key of k. -/
structure KeyL (P : Program) (K : TypeId) (kv : κ → Value) : Prop where
  check : ∀ (w : World) (em : Bool) (k : κ), (Instr.checkKey em 10000 K (kv k)).run P w = .ok () w
  find : ∀ (w : World) (k : κ) (es : List MapEntry) (l : List κ), es.map (·.key) = l.map kv →
    ((Instr.findKey K (kv k) es).run P w = .ok none w ∧ k ∉ l) ∨ ∃ j e, (Instr.findKey K (kv k) es).run P w = .ok (some (j, e.val)) w ∧ es[j]? = some e ∧ l[j]? = some k
  bits : ∀ k, Instr.sameBits 10000 (kv k) (kv k) = true
def mget (l : List (κ × Value)) (k : κ) : Option Value := (l.find? fun p => p.1 = k).map (·.2)
def mset (l : List (κ × Value)) (k : κ) (v : Value) : List (κ × Value) := if k ∈ l.map (·.1) then l.map fun p => if p.1 = k then (k, v) else p else l ++ [(k, v)]
def mdel (l : List (κ × Value)) (k : κ) : List (κ × Value) := l.filter fun p => p.1 ≠ k
/-- Block b is a map with these entries. -/
def MpK (w : World) (kv : κ → Value) (b : Nat) (l : List (κ × Value)) : Prop :=
  (l.map (·.1)).Nodup ∧ ∃ es clock, w.heap[b]? = some (.map es clock) ∧ es.toList.map (fun e => (e.key, e.val)) = l.map fun p => (kv p.1, p.2)
variable {P : Program} {K : TypeId} {kv : κ → Value} {w w' : World} {b : Nat} {l : List (κ × Value)} {S : Nat → Prop}
omit [DecidableEq κ] in
theorem MpK.lt (h : MpK w kv b l) : b < w.heap.size := by
  obtain ⟨_, es, clock, hb, _⟩ := h
  exact (Array.getElem?_eq_some_iff.1 hb).1
omit [DecidableEq κ] in
theorem MpK.frm (h : MpK w kv b l) (hf : Frm w w' S) (hS : ¬ S b) : MpK w' kv b l := by
  obtain ⟨hn, es, clock, hb, he⟩ := h
  exact ⟨hn, es, clock, (hf.block b (Array.getElem?_eq_some_iff.1 hb).1 hS).trans hb, he⟩
theorem mget_at {k : κ} {j : Nat} {v : Value} (hn : (l.map (·.1)).Nodup) (hj : l[j]? = some (k, v)) : mget l k = some v := by
  unfold mget
  have hm : (k, v) ∈ l := List.mem_of_getElem? hj
  have : l.find? (fun p => p.1 = k) = some (k, v) := by
    induction l generalizing j with
    | nil => cases hm
    | cons p r ih =>
      rw [List.map_cons, List.nodup_cons] at hn
      rcases List.mem_cons.1 hm with rfl | hm'
      · simp
      · have hne : p.1 ≠ k := fun e => hn.1 (by rw [e]; exact List.mem_map.2 ⟨_, hm', rfl⟩)
        rw [List.find?_cons_of_neg (by simpa using hne)]
        obtain ⟨i, hi⟩ := List.mem_iff_getElem?.1 hm'
        exact ih hn.2 hi hm'
  rw [this]
  rfl
theorem mget_none {k : κ} (h : k ∉ l.map (·.1)) : mget l k = none := by
  unfold mget
  rw [List.find?_eq_none.2 (fun p hp => by simpa using fun e => h (by rw [← e]; exact List.mem_map.2 ⟨p, hp, rfl⟩))]
  rfl
omit [DecidableEq κ] in
theorem keys_of {es : List MapEntry} (he : es.map (fun e => (e.key, e.val)) = l.map fun p => (kv p.1, p.2)) : es.map (·.key) = (l.map (·.1)).map kv := by
  have := congrArg (List.map Prod.fst) he
  simpa [Function.comp_def] using this
theorem nodup_at {α : Type} {l : List α} {i j : Nat} {a : α} (h : l.Nodup) (hi : l[i]? = some a) (hj : l[j]? = some a) : i = j := by
  obtain ⟨h1, h2⟩ := List.getElem?_eq_some_iff.1 hi
  obtain ⟨h3, h4⟩ := List.getElem?_eq_some_iff.1 hj
  exact (List.getElem_inj h).1 (h2.trans h4.symm)
/-- 'm[k]'. -/
theorem MpK.lookup (h : MpK w kv b l) (L : KeyL P K kv) {t e : TypeId} {z : Value} (ht : P.underlying t = some (.map K e)) (hz : (zeroValue e).run P w = .ok z w) (k : κ) :
    (Instr.lookup t (.map (some b)) (kv k) false).run P w = .ok ((mget l k).getD z) w := by
  obtain ⟨hn, es, clock, hb, he⟩ := h
  have hkeys := keys_of he
  unfold Instr.lookup
  simp only [Sem.run_bind, run_underlying ht, Result.andThen_ok, Go.MapKept.run_getObj_map (P := P) hb, L.check, Sem.run_pure]
  rcases L.find w k es.toList (l.map (·.1)) hkeys with ⟨h1, h2⟩ | ⟨j, x, h1, h2, h3⟩
  · simp only [h1, Result.andThen_ok, Sem.run_bind, hz, Sem.run_pure, mget_none h2]
    rfl
  · have hj : l[j]? = some (k, x.val) := by
      have h4 := congrArg (·[j]?) he
      simp only [List.getElem?_map, h2] at h4
      rw [List.getElem?_map] at h3
      cases hl : l[j]? with
      | none => rw [hl] at h3; cases h3
      | some p =>
        rw [hl] at h3 h4
        injection h3 with h3
        injection h4 with h4
        injection h4 with h5 h6
        rw [← h3, h6]
    simp only [h1, Result.andThen_ok, mget_at hn hj]
    rfl
/-- 'm[k] = v'. -/
theorem MpK.update (h : MpK w kv b l) (L : KeyL P K kv) {t e : TypeId} (ht : P.underlying t = some (.map K e)) (k : κ) (v : Value) :
    ∃ w', (Instr.mapUpdate t (.map (some b)) (kv k) v).run P w = .ok () w' ∧ MpK w' kv b (mset l k v) ∧ Frm w w' fun j => j = b := by
  obtain ⟨hn, es, clock, hb, he⟩ := h
  have hkeys := keys_of he
  have frm : ∀ o, Frm w { w with heap := w.heap.setIfInBounds b o } fun j => j = b := fun o => ⟨rfl, rfl, rfl, by simp, fun j _ hj => by simp [Ne.symm hj]⟩
  unfold Instr.mapUpdate
  simp only [Sem.run_bind, run_underlying ht, Result.andThen_ok, Go.MapKept.run_getObj_map (P := P) hb, L.check]
  rcases L.find w k es.toList (l.map (·.1)) hkeys with ⟨h1, h2⟩ | ⟨j, x, h1, h2, h3⟩
  · simp only [h1, Result.andThen_ok, Go.MapKept.run_setObj_map (P := P) _ hb]
    refine ⟨_, rfl, ⟨?_, _, _, (heap_set hb).1, ?_⟩, frm _⟩
    · unfold mset
      rw [if_neg h2, List.map_append, List.nodup_append]
      refine ⟨hn, by simp, fun a ha b hb hab => h2 ?_⟩
      simp at hb
      rw [← hb, ← hab]
      exact ha
    · unfold mset
      rw [if_neg h2, Array.toList_push, List.map_append, List.map_append, he]
      rfl
  · have hk : ((es[j]?).map (·.key)).getD (kv k) = kv k := by
      have h4 := congrArg (·[j]?) hkeys
      simp only [List.getElem?_map] at h4
      rw [List.getElem?_map] at h3
      rw [h2, h3] at h4
      rw [Array.getElem?_toList] at h2
      rw [h2]
      injection h4
    simp only [h1, Result.andThen_ok, hk, Instr.keyThatStays, L.bits, if_true, Sem.run_bind, Sem.run_pure, Go.MapKept.run_setObj_map (P := P) _ hb]
    have hmem : k ∈ l.map (·.1) := List.mem_of_getElem? h3
    refine ⟨_, rfl, ⟨?_, _, _, (heap_set hb).1, ?_⟩, frm _⟩
    · unfold mset
      rw [if_pos hmem, List.map_map]
      have : ((fun p : κ × Value => p.1) ∘ fun p => if p.1 = k then (k, v) else p) = fun p => p.1 := by
        funext p
        show (if p.1 = k then (k, v) else p).1 = p.1
        split
        · rename_i e; exact e.symm
        · rfl
      rw [this]
      exact hn
    · unfold mset
      rw [if_pos hmem]
      apply List.ext_getElem?
      intro i
      have h4 := congrArg (·[i]?) he
      simp only [List.getElem?_map] at h4
      simp only [List.getElem?_map, Array.toList_modify, List.getElem?_modify]
      rw [List.getElem?_map] at h3
      by_cases hij : j = i
      · subst hij
        rw [h2] at h4 ⊢
        cases hl : l[j]? with
        | none => rw [hl] at h3; cases h3
        | some p =>
          rw [hl] at h3
          injection h3 with h3
          simp [h3]
      · cases hl : l[i]? with
        | none =>
          rw [hl] at h4
          cases hx : es.toList[i]? with
          | none => simp
          | some y => rw [hx] at h4; cases h4
        | some p =>
          rw [hl] at h4
          cases hx : es.toList[i]? with
          | none => rw [hx] at h4; cases h4
          | some y =>
            rw [hx] at h4
            injection h4 with h4
            injection h4 with h5 h6
            have hne : p.1 ≠ k := fun e => by
              have q1 : (l.map (·.1))[i]? = some k := by rw [List.getElem?_map, hl, ← e]; rfl
              have q2 : (l.map (·.1))[j]? = some k := by rw [List.getElem?_map]; exact h3
              exact hij (nodup_at hn q2 q1)
            simp [hij, hne, h5, h6]
end
/-- Keys of an integer kind. -/
theorem intL {P : Program} {K : TypeId} {q : IntKind} (hK : P.underlying K = some (.int q)) : KeyL P K (fun k : Int => Value.int q k) where
  check := fun w em k => run_checkKey hK (by simp [IsKey]) em 9999
  find := fun w k es l hk => by
    have hall : ∀ x ∈ es, IsKey (.int q) x.key := fun x hx => by
      have : x.key ∈ es.map (·.key) := List.mem_map.2 ⟨x, hx, rfl⟩
      rw [hk] at this
      obtain ⟨a, _, h⟩ := List.mem_map.1 this
      rw [← h]
      simp [IsKey]
    rcases findNow_spec (d := .int q) (k := .int q k) (by simp [IsKey]) es 0 hall with ⟨h1, h2⟩ | ⟨j, e, h1, h2, h3⟩
    · refine .inl ⟨run_findKey hK h1, fun hm => ?_⟩
      have : Value.int q k ∈ es.map (·.key) := by rw [hk]; exact List.mem_map.2 ⟨k, hm, rfl⟩
      obtain ⟨x, hx, hxk⟩ := List.mem_map.1 this
      exact h2 x hx hxk
    · rw [Nat.zero_add] at h1
      refine .inr ⟨j, e, run_findKey hK h1, h2, ?_⟩
      have h4 := congrArg (·[j]?) hk
      simp only [List.getElem?_map, h2] at h4
      cases hl : l[j]? with
      | none => rw [hl] at h4; cases h4
      | some a =>
        rw [hl] at h4
        injection h4 with h4
        have h4 : Value.int q k = Value.int q a := h3.symm.trans h4
        injection h4 with _ h5
        rw [h5]
  bits := fun k => by simp [Instr.sameBits]
abbrev Th := Int × Int
/-! ### delete -/
theorem mget_del {κ : Type} [DecidableEq κ] (l : List (κ × Value)) (k k' : κ) : mget (mdel l k) k' = if k' = k then none else mget l k' := by
  unfold mget mdel
  induction l with
  | nil => split <;> rfl
  | cons p r ih =>
    by_cases h : p.1 = k
    · rw [List.filter_cons_of_neg (by simpa using h), ih]
      by_cases h2 : k' = k
      · rw [if_pos h2, if_pos h2]
      · rw [if_neg h2, if_neg h2, List.find?_cons_of_neg (by simp; exact fun e => h2 (e.symm.trans h))]
    · rw [List.filter_cons_of_pos (by simpa using h)]
      by_cases h3 : p.1 = k'
      · rw [List.find?_cons_of_pos (by simpa using h3), List.find?_cons_of_pos (by simpa using h3)]
        rw [if_neg (fun e => h (h3.trans e))]
      · rw [List.find?_cons_of_neg (by simpa using h3), List.find?_cons_of_neg (by simpa using h3)]
        exact ih
theorem mget_set {κ : Type} [DecidableEq κ] (l : List (κ × Value)) (k k' : κ) (v : Value) : mget (mset l k v) k' = if k' = k then some v else mget l k' := by
  unfold mset
  by_cases hm : k ∈ l.map (·.1)
  · rw [if_pos hm]
    unfold mget
    induction l with
    | nil => cases hm
    | cons p r ih =>
      by_cases h : p.1 = k
      · by_cases h2 : k' = k
        · rw [List.map_cons, if_pos h, List.find?_cons_of_pos (by simp [h2]), if_pos h2]
          rfl
        · rw [List.map_cons, if_pos h, List.find?_cons_of_neg (by simpa using fun e => h2 e.symm), if_neg h2, List.find?_cons_of_neg (by simpa using fun e => h2 (e.symm.trans h))]
          by_cases hr : k ∈ r.map (·.1)
          · have := ih hr
            rw [if_neg h2] at this
            exact this
          · have e : (r.map fun p => if p.1 = k then (k, v) else p) = r := by
              conv => rhs; rw [← List.map_id r]
              refine List.map_congr_left fun q hq => if_neg fun e => hr (List.mem_map.2 ⟨q, hq, e⟩)
            rw [e]
      · have hr : k ∈ r.map (·.1) := by
          rcases List.mem_cons.1 hm with e | e
          · exact absurd e.symm h
          · exact e
        rw [List.map_cons, if_neg h]
        by_cases h3 : p.1 = k'
        · rw [List.find?_cons_of_pos (by simpa using h3), List.find?_cons_of_pos (by simpa using h3), if_neg (fun e => h (h3.trans e))]
        · rw [List.find?_cons_of_neg (by simpa using h3), List.find?_cons_of_neg (by simpa using h3)]
          exact ih hr
  · rw [if_neg hm]
    unfold mget
    rw [List.find?_append]
    by_cases h2 : k' = k
    · rw [if_pos h2, List.find?_eq_none.2 (fun p hp => by simp; exact fun e => hm (List.mem_map.2 ⟨p, hp, e.trans h2⟩))]
      simp [h2]
    · rw [if_neg h2]
      have : ¬ k = k' := fun e => h2 e.symm
      cases l.find? (fun p => p.1 = k') <;> simp [this]
theorem mdel_erase {κ : Type} [DecidableEq κ] (l : List (κ × Value)) (k : κ) (j : Nat) (hn : (l.map (·.1)).Nodup) (h : (l.map (·.1))[j]? = some k) : mdel l k = l.eraseIdx j := by
  induction l generalizing j with
  | nil => cases h
  | cons p r ih =>
    rw [List.map_cons, List.nodup_cons] at hn
    cases j with
    | zero =>
      injection h with h
      unfold mdel
      rw [List.filter_cons_of_neg (by simpa using h), List.eraseIdx_cons_zero, List.filter_eq_self]
      intro q hq
      simp
      exact fun e => hn.1 (List.mem_map.2 ⟨q, hq, e.trans h.symm⟩)
    | succ j =>
      have hr : (r.map (·.1))[j]? = some k := by simpa using h
      have hne : p.1 ≠ k := fun e => hn.1 (by rw [e]; exact List.mem_of_getElem? hr)
      unfold mdel
      rw [List.filter_cons_of_pos (by simpa using hne), List.eraseIdx_cons_succ]
      congr 1
      exact ih j hn.2 hr
theorem map_erase {α β : Type} (f : α → β) (l : List α) (j : Nat) : (l.eraseIdx j).map f = (l.map f).eraseIdx j := by
  induction l generalizing j with
  | nil => rfl
  | cons a r ih =>
    cases j with
    | zero => rfl
    | succ j => rw [List.eraseIdx_cons_succ, List.map_cons, List.map_cons, List.eraseIdx_cons_succ, ih]
section
variable {κ : Type} [DecidableEq κ] {P : Program} {K : TypeId} {kv : κ → Value} {w : World} {b : Nat} {l : List (κ × Value)}
/-- 'delete(m, k)'. -/
theorem MpK.delete (h : MpK w kv b l) (L : KeyL P K kv) {t e ty k2 : TypeId} (ht : P.underlying t = some (.map K e)) (k : κ) :
    ∃ w', (Builtin.delete_ #[t, k2] ty #[.map (some b), kv k]).run P w = .ok (.tuple #[]) w' ∧ MpK w' kv b (mdel l k) ∧ Frm w w' fun j => j = b := by
  obtain ⟨hn, es, clock, hb, he⟩ := h
  have hkeys := keys_of he
  have frm : ∀ o, Frm w { w with heap := w.heap.setIfInBounds b o } fun j => j = b := fun o => ⟨rfl, rfl, rfl, by simp, fun j _ hj => by simp [Ne.symm hj]⟩
  have hnd : ((mdel l k).map (·.1)).Nodup := by
    unfold mdel
    exact (List.Sublist.map _ (List.filter_sublist)).nodup hn
  unfold Builtin.delete_
  rcases L.find w k es.toList (l.map (·.1)) hkeys with ⟨h1, h2⟩ | ⟨j, x, h1, h2, h3⟩
  · simp only [Sem.run_bind, run_underlying ht, Result.andThen_ok, Go.MapKept.run_getObj_map (P := P) hb, L.check, h1, Go.MapKept.run_setObj_map (P := P) _ hb, Sem.run_pure, List.getElem?_toArray, List.getElem?_cons_zero, List.getElem?_cons_succ]
    refine ⟨_, rfl, ⟨hnd, _, _, (heap_set hb).1, ?_⟩, frm _⟩
    have : mdel l k = l := by
      unfold mdel
      rw [List.filter_eq_self]
      intro p hp
      simp
      exact fun e => h2 (List.mem_map.2 ⟨p, hp, e⟩)
    rw [this]
    exact he
  · simp only [Sem.run_bind, run_underlying ht, Result.andThen_ok, Go.MapKept.run_getObj_map (P := P) hb, L.check, h1, Go.MapKept.run_setObj_map (P := P) _ hb, Sem.run_pure, List.getElem?_toArray, List.getElem?_cons_zero, List.getElem?_cons_succ]
    refine ⟨_, rfl, ⟨hnd, _, _, (heap_set hb).1, ?_⟩, frm _⟩
    have hj : j < es.size := by have := (List.getElem?_eq_some_iff.1 h2).1; simpa using this
    rw [mdel_erase l k j hn h3, map_erase, ← he, ← map_erase]
    congr 1
    simp [Array.eraseIdxIfInBounds, hj]
end
end Go.Proofs.YtmjpaaippilioaaDoor
