import Derived.Test.YtmjpaaippilioaaDoorPgA
import Derived.Maps.RangeRun
namespace Go.Proofs.YtmjpaaippilioaaDoor
open Go.RowKit Go.MapKept

/-! ### maps with their stamps: what a range over a map needs -/
def Brn (es : Array MapEntry) (clock : Nat) : Prop := (∀ x ∈ es.toList, x.born < clock) ∧ (es.toList.map (·.born)).Nodup
theorem Brn.nil (clock : Nat) : Brn #[] clock := ⟨by simp, by simp⟩
theorem Brn.push {es : Array MapEntry} {clock : Nat} (h : Brn es clock) (key val : Value) : Brn (es.push { key, val, born := clock }) (clock + 1) := by
  obtain ⟨h1, h2⟩ := h
  refine ⟨?_, ?_⟩
  · intro x hx
    simp only [Array.toList_push, List.mem_append, List.mem_singleton] at hx
    rcases hx with hx | rfl
    · exact Nat.lt_succ_of_lt (h1 x hx)
    · exact Nat.lt_succ_self _
  · simp only [Array.toList_push, List.map_append, List.map_cons, List.map_nil]
    refine List.nodup_append.2 ⟨h2, by simp, ?_⟩
    intro a ha b hb
    simp only [List.mem_singleton] at hb
    subst hb
    obtain ⟨x, hx, rfl⟩ := List.mem_map.1 ha
    exact Nat.ne_of_lt (h1 x hx)
theorem Brn.of_borns {es es' : Array MapEntry} {clock : Nat} (h : Brn es clock) (hs : (es'.toList.map (·.born)).Sublist (es.toList.map (·.born))) : Brn es' clock := by
  refine ⟨fun x hx => ?_, hs.nodup h.2⟩
  have : x.born ∈ es.toList.map (·.born) := hs.subset (List.mem_map.2 ⟨x, hx, rfl⟩)
  obtain ⟨y, hy, e⟩ := List.mem_map.1 this
  rw [← e]
  exact h.1 y hy
section
variable {κ : Type} [DecidableEq κ]
/-- Block b is a map with these entries, and stamps that differ. -/
def MpS (w : World) (kv : κ → Value) (b : Nat) (l : List (κ × Value)) : Prop :=
  (l.map (·.1)).Nodup ∧ ∃ es clock, w.heap[b]? = some (.map es clock) ∧ es.toList.map (fun e => (e.key, e.val)) = (l.map fun p => (kv p.1, p.2)) ∧ Brn es clock
variable {P : Program} {K : TypeId} {kv : κ → Value} {w w' : World} {b : Nat} {l : List (κ × Value)} {S : Nat → Prop}
omit [DecidableEq κ] in
theorem MpS.toK (h : MpS w kv b l) : MpK w kv b l := by
  obtain ⟨hn, es, clock, hb, he, _⟩ := h
  exact ⟨hn, es, clock, hb, he⟩
omit [DecidableEq κ] in
theorem MpS.lt (h : MpS w kv b l) : b < w.heap.size := h.toK.lt
omit [DecidableEq κ] in
theorem MpS.frm (h : MpS w kv b l) (hf : Frm w w' S) (hS : ¬ S b) : MpS w' kv b l := by
  obtain ⟨hn, es, clock, hb, he⟩ := h
  exact ⟨hn, es, clock, (hf.block b (Array.getElem?_eq_some_iff.1 hb).1 hS).trans hb, he⟩
omit [DecidableEq κ] in
/-- 'make(map[..]..)'. -/
theorem MpS.made {t e : TypeId} (_ht : P.underlying t = some (.map K e)) (w : World) :
    ∃ w', (Instr.makeMap t none).run P w = .ok (.map (some w.heap.size)) w' ∧ MpS w' kv w.heap.size ([] : List (κ × Value)) ∧ Frm w w' fun _ => False := by
  refine ⟨w.alloc (.map #[] 0), ?_, ⟨by simp, #[], 0, heap_alloc_new w _, by simp, Brn.nil _⟩, (Frm.refl w _).alloc _⟩
  simp [Instr.makeMap]
/-- 'm[k] = v'. -/
theorem MpS.update (h : MpS w kv b l) (L : KeyL P K kv) {t e : TypeId} (ht : P.underlying t = some (.map K e)) (k : κ) (v : Value) :
    ∃ w', (Instr.mapUpdate t (.map (some b)) (kv k) v).run P w = .ok () w' ∧ MpS w' kv b (mset l k v) ∧ Frm w w' fun j => j = b := by
  obtain ⟨w', hrun, ⟨hn', es', clock', hb', he'⟩, hf⟩ := h.toK.update L ht k v
  obtain ⟨hn, es, clock, hb, he, hB⟩ := h
  refine ⟨w', hrun, ⟨hn', es', clock', hb', he', ?_⟩, hf⟩
  have hkeys := keys_of he
  have frm : ∀ o, (w.heap.setIfInBounds b o)[b]? = some o := fun o => (heap_set hb).1
  unfold Instr.mapUpdate at hrun
  simp only [Sem.run_bind, run_underlying ht, Result.andThen_ok, Go.MapKept.run_getObj_map (P := P) hb, L.check] at hrun
  rcases L.find w k es.toList (l.map (·.1)) hkeys with ⟨h1, h2⟩ | ⟨j, x, h1, h2, h3⟩
  · simp only [h1, Result.andThen_ok, Go.MapKept.run_setObj_map (P := P) _ hb] at hrun
    injection hrun with _ hrun
    rw [← hrun] at hb'
    have hb' := hb'.symm.trans (frm _)
    injection hb' with hb'
    injection hb' with h5 h6
    rw [h5, h6]
    exact hB.push _ _
  · have hk : ((es[j]?).map (·.key)).getD (kv k) = kv k := by
      have h4 := congrArg (·[j]?) hkeys
      simp only [List.getElem?_map] at h4
      rw [List.getElem?_map] at h3
      rw [h2, h3] at h4
      rw [Array.getElem?_toList] at h2
      rw [h2]
      injection h4
    simp only [h1, Result.andThen_ok, hk, Instr.keyThatStays, L.bits, if_true, Sem.run_bind, Sem.run_pure, Go.MapKept.run_setObj_map (P := P) _ hb] at hrun
    injection hrun with _ hrun
    rw [← hrun] at hb'
    have hb' := hb'.symm.trans (frm _)
    injection hb' with hb'
    injection hb' with h5 h6
    rw [h5, h6]
    refine hB.of_borns ?_
    have : (es.modify j fun e => { e with key := kv k, val := v }).toList.map (·.born) = es.toList.map (·.born) := by
      apply List.ext_getElem?
      intro i
      simp only [List.getElem?_map, Array.getElem?_toList, Array.getElem?_modify]
      by_cases hij : j = i
      · subst hij
        rw [if_pos rfl]
        cases es[j]? <;> rfl
      · rw [if_neg hij]
    rw [this]
    exact List.Sublist.refl _
/-- 'delete(m, k)'. -/
theorem MpS.delete (h : MpS w kv b l) (L : KeyL P K kv) {t e ty k2 : TypeId} (ht : P.underlying t = some (.map K e)) (k : κ) :
    ∃ w', (Builtin.delete_ #[t, k2] ty #[.map (some b), kv k]).run P w = .ok (.tuple #[]) w' ∧ MpS w' kv b (mdel l k) ∧ Frm w w' fun j => j = b := by
  obtain ⟨w', hrun, ⟨hn', es', clock', hb', he'⟩, hf⟩ := h.toK.delete L (ty := ty) (k2 := k2) ht k
  obtain ⟨hn, es, clock, hb, he, hB⟩ := h
  refine ⟨w', hrun, ⟨hn', es', clock', hb', he', ?_⟩, hf⟩
  have hkeys := keys_of he
  have frm : ∀ o, (w.heap.setIfInBounds b o)[b]? = some o := fun o => (heap_set hb).1
  unfold Builtin.delete_ at hrun
  rcases L.find w k es.toList (l.map (·.1)) hkeys with ⟨h1, h2⟩ | ⟨j, x, h1, h2, h3⟩
  · simp only [Sem.run_bind, run_underlying ht, Result.andThen_ok, Go.MapKept.run_getObj_map (P := P) hb, L.check, h1, Go.MapKept.run_setObj_map (P := P) _ hb, Sem.run_pure, List.getElem?_toArray, List.getElem?_cons_zero, List.getElem?_cons_succ] at hrun
    injection hrun with _ hrun
    rw [← hrun] at hb'
    have hb' := hb'.symm.trans (frm _)
    injection hb' with hb'
    injection hb' with h5 h6
    rw [h5, h6]
    exact hB
  · simp only [Sem.run_bind, run_underlying ht, Result.andThen_ok, Go.MapKept.run_getObj_map (P := P) hb, L.check, h1, Go.MapKept.run_setObj_map (P := P) _ hb, Sem.run_pure, List.getElem?_toArray, List.getElem?_cons_zero, List.getElem?_cons_succ] at hrun
    injection hrun with _ hrun
    rw [← hrun] at hb'
    have hb' := hb'.symm.trans (frm _)
    injection hb' with hb'
    injection hb' with h5 h6
    rw [h5, h6]
    refine hB.of_borns ?_
    have hj : j < es.size := by have := (List.getElem?_eq_some_iff.1 h2).1; simpa using this
    have : (es.eraseIdxIfInBounds j).toList = es.toList.eraseIdx j := by simp [Array.eraseIdxIfInBounds, hj]
    rw [this]
    exact (List.eraseIdx_sublist _ _).map _
/-! ### a range over a map -/
/-- Block r is an iterator over the map in block b (or over no map); 'rest' is to come. -/
def MpR (w : World) (kv : κ → Value) (g : Option Nat) (r : Nat) (l rest : List (κ × Value)) : Prop :=
  (g = none ∧ l = [] ∧ rest = [] ∧ ∃ a s c, w.heap[r]? = some (.mapIter none a s c)) ∨
  ∃ b es clock since seen c0, g = some b ∧ (l.map (·.1)).Nodup ∧ w.heap[b]? = some (.map es clock) ∧ es.toList.map (fun e => (e.key, e.val)) = (l.map fun p => (kv p.1, p.2)) ∧ Brn es clock ∧
    w.heap[r]? = some (.mapIter (some b) since seen c0) ∧ (∀ x ∈ es.toList, x.born < since) ∧ since ≤ c0 ∧ since ≤ clock ∧ b ≠ r ∧
    (es.toList.filter fun e => !seen.contains e.born).map (fun e => (e.key, e.val)) = rest.map fun p => (kv p.1, p.2)
omit [DecidableEq κ] in
theorem MpR.frm {g : Option Nat} {r : Nat} {rest : List (κ × Value)} (h : MpR w kv g r l rest) (hf : Frm w w' S) (hr : ¬ S r) (hg : ∀ b, g = some b → ¬ S b) : MpR w' kv g r l rest := by
  rcases h with ⟨h1, h2, h3, a, s, c, hb⟩ | ⟨b, es, clock, since, seen, c0, h1, h2, hb, h3, h4, hi, h5⟩
  · exact .inl ⟨h1, h2, h3, a, s, c, (hf.block r (Array.getElem?_eq_some_iff.1 hb).1 hr).trans hb⟩
  · exact .inr ⟨b, es, clock, since, seen, c0, h1, h2, (hf.block b (Array.getElem?_eq_some_iff.1 hb).1 (hg b h1)).trans hb, h3, h4, (hf.block r (Array.getElem?_eq_some_iff.1 hi).1 hr).trans hi, h5⟩
omit [DecidableEq κ] in
theorem MpR.lt {g : Option Nat} {r : Nat} {rest : List (κ × Value)} (h : MpR w kv g r l rest) : r < w.heap.size := by
  rcases h with ⟨h1, h2, h3, a, s, c, hb⟩ | ⟨b, es, clock, since, seen, c0, h1, h2, hb, h3, h4, hi, h5⟩
  · exact (Array.getElem?_eq_some_iff.1 hb).1
  · exact (Array.getElem?_eq_some_iff.1 hi).1
omit [DecidableEq κ] in
/-- 'range m'. -/
theorem MpR.start {g : Option Nat} {t e : TypeId} (ht : P.underlying t = some (.map K e)) (h0 : g = none → l = []) (h : ∀ b, g = some b → MpS w kv b l) :
    (∃ w', (Instr.range t (.map g)).run P w = .ok (.pointer (some ⟨w.heap.size, 0, none⟩)) w' ∧ MpR w' kv g w.heap.size l l ∧ w'.heap.size = w.heap.size + 1 ∧ Frm w w' fun _ => False) := by
  cases g with
  | none => exact ⟨_, run_range_nilMap w t _ _ ht, .inl ⟨rfl, h0 rfl, h0 rfl, 0, #[], 0, heap_alloc_new w _⟩, by simp, (Frm.refl w _).alloc _⟩
  | some b =>
    have hlt := (h b rfl).lt
    obtain ⟨hn, es, clock, hb, he, hB⟩ := h b rfl
    refine ⟨_, run_range_map w t _ _ b es clock ht hb, .inr ⟨b, es, clock, clock, #[], clock, rfl, hn, (heap_alloc_old w _ hlt).trans hb, he, hB, heap_alloc_new w _, hB.1, Nat.le_refl _, Nat.le_refl _, by omega, ?_⟩, by simp, (Frm.refl w _).alloc _⟩
    have : (es.toList.filter fun e => !(#[] : Array Nat).contains e.born) = es.toList := by
      rw [List.filter_eq_self]
      simp
    rw [this]
    exact he
theorem perm_rest {α : Type} (f : α → Nat) : ∀ (l : List α) (e : α), (l.map f).Nodup → e ∈ l → l.Perm (e :: l.filter fun x => f x != f e)
  | [], e, _, h => by cases h
  | a :: l, e, hn, h => by
    rw [List.map_cons, List.nodup_cons] at hn
    by_cases he : f a = f e
    · have hae : a = e := by
        rcases List.mem_cons.1 h with rfl | h2
        · rfl
        · exact absurd (by rw [he]; exact List.mem_map.2 ⟨e, h2, rfl⟩) hn.1
      subst hae
      rw [List.filter_cons_of_neg (by simp)]
      have : (l.filter fun x => f x != f a) = l := by
        rw [List.filter_eq_self]
        intro x hx
        simp
        exact fun e' => hn.1 (by rw [← e']; exact List.mem_map.2 ⟨x, hx, rfl⟩)
      rw [this]
    · rw [List.filter_cons_of_pos (by simpa using he)]
      have h2 : e ∈ l := by
        rcases List.mem_cons.1 h with rfl | h2
        · exact absurd rfl he
        · exact h2
      exact ((perm_rest f l e hn.2 h2).cons a).trans (List.Perm.swap e a _)
omit [DecidableEq κ] in
theorem map_perm {α : Type} {f : α → Value × Value} {g : κ × Value → Value × Value} (l : List α) (r : List (κ × Value)) (h : l.map f = r.map g) (e : α) (l' : List α) (hp : l.Perm (e :: l')) :
    ∃ x r', r.Perm (x :: r') ∧ f e = g x ∧ l'.map f = r'.map g := by
  have h1 : (r.map g).Perm (f e :: l'.map f) := by rw [← h]; exact hp.map f
  have : ∀ (r : List (κ × Value)) (m : List (Value × Value)), (r.map g).Perm m → ∃ q, r.Perm q ∧ m = q.map g := by
    intro r m hm
    generalize hrm : r.map g = rm at hm
    induction hm generalizing r with
    | nil => exact ⟨r, List.Perm.refl _, hrm.symm⟩
    | cons x hp ih =>
      cases r with
      | nil => cases hrm
      | cons a r =>
        injection hrm with h1 h2
        obtain ⟨q, hq, e⟩ := ih r h2
        exact ⟨a :: q, hq.cons a, by rw [List.map_cons, h1, e]⟩
    | swap x y t =>
      cases r with
      | nil => cases hrm
      | cons a r =>
        cases r with
        | nil => cases hrm
        | cons b r =>
          injection hrm with h1 h2
          injection h2 with h2 h3
          exact ⟨b :: a :: r, List.Perm.swap b a r, by simp [h1, h2, h3]⟩
    | trans _ _ ih1 ih2 =>
      obtain ⟨q, hq, e⟩ := ih1 r hrm
      obtain ⟨q2, hq2, e2⟩ := ih2 q e.symm
      exact ⟨q2, hq.trans hq2, e2⟩
  obtain ⟨q, hq, e⟩ := this r _ h1
  cases q with
  | nil => cases e
  | cons x q =>
    injection e with e1 e2
    exact ⟨x, q, hq, e1, e2⟩
omit [DecidableEq κ] in
/-- 'next', and the entry that it gave. -/
theorem MpR.next {g : Option Nat} {r : Nat} {rest : List (κ × Value)} (h : MpR w kv g r l rest) (ty : TypeId) :
    (rest = [] ∧ (Instr.next (.pointer (some ⟨r, 0, none⟩)) false ty).run P w = .ok (.tuple #[.bool false]) w) ∨
    ∃ x rest' w', rest.Perm (x :: rest') ∧ (Instr.next (.pointer (some ⟨r, 0, none⟩)) false ty).run P w = .ok (.tuple #[.bool true, kv x.1, x.2]) w' ∧ MpR w' kv g r l rest' ∧ Frm w w' (fun j => j = r) ∧ w'.heap.size = w.heap.size ∧
      (Instr.entry (.pointer (some ⟨r, 0, none⟩))).run P w' = .ok (.tuple #[kv x.1, x.2]) w' := by
  rcases h with ⟨h1, h2, h3, a, s, c, hb⟩ | ⟨b, es, clock, since, seen, c0, h1, h2, hb, h3, h4, hi, h5, h6, h7, h8, h9⟩
  · refine .inl ⟨h3, ?_⟩
    simp only [Instr.next, getObj, Sem.run_bind, Sem.run, hb, Result.andThen]
    rfl
  · have hlo : (leftOf es seen).toList = es.toList.filter fun e => !seen.contains e.born := by simp [leftOf]
    rcases run_next_at (P := P) w ty r b since c0 seen es clock hi hb h5 h6 with ⟨q0, hrun⟩ | ⟨e, he, w1, hal, hrun⟩
    · refine .inl ⟨?_, hrun⟩
      have : (leftOf es seen).toList = [] := by rw [← Array.length_toList] at q0; exact List.length_eq_zero_iff.1 q0
      rw [hlo] at this
      rw [this] at h9
      exact List.map_eq_nil_iff.1 h9.symm
    · obtain ⟨hem, hes⟩ := mem_left he
      have hr1 : w1.heap[r]? = some (.mapIter (some b) since seen c0) := by rcases hal with rfl | rfl <;> exact hi
      have hb1 : w1.heap[b]? = some (.map es clock) := by rcases hal with rfl | rfl <;> exact hb
      have hset := heap_set (o' := .mapIter (some b) since (seen.push e.born) clock) hr1
      have hb' := (hset.2 b h8).trans hb1
      have hp := perm_rest (·.born) (es.toList.filter fun e => !seen.contains e.born) e ((List.Sublist.map _ List.filter_sublist).nodup h4.2) (by rw [← hlo]; exact he)
      obtain ⟨x, rest', hx1, hx2, hx3⟩ := map_perm _ _ h9 e _ hp
      injection hx2 with hx4 hx5
      rw [hx4, hx5] at hrun
      have hen := run_entry_at (P := P) (ChangeMaps.setBlock w1 r (.mapIter (some b) since (seen.push e.born) clock)) r b since seen es clock e hset.1 hb' hem h4.2
      rw [hx4, hx5] at hen
      refine .inr ⟨x, rest', _, hx1, hrun, .inr ⟨b, es, clock, since, seen.push e.born, clock, h1, h2, hb', h3, h4, hset.1, h5, h7, h7, h8, ?_⟩, ?_, ?_, hen⟩
      · rw [← hx3, List.filter_filter]
        congr 1
        refine List.filter_congr fun y _ => ?_
        rw [contains_push]
        cases seen.contains y.born <;> cases hyb : (y.born == e.born) <;> simp_all
      · rcases hal with rfl | rfl <;> exact ⟨rfl, rfl, rfl, by simp [ChangeMaps.setBlock], fun i _ hi => hset.2 i hi⟩
      · rcases hal with rfl | rfl <;> simp [ChangeMaps.setBlock]
end
end Go.Proofs.YtmjpaaippilioaaDoor
