import Derived.Test.YtmjpaaippilioaaDoorPgZ
namespace Go.Proofs.YtmjpaaippilioaaDoor
open Go.RowKit

/-! ### the plain law of Join: a tidy program takes as often as it gives back -/
def isT (k : Nat) : Bool := decide (k = 0 ∨ k = 3 ∨ k = 6 ∨ k = 9)
def isG (k : Nat) : Bool := decide (k = 2 ∨ k = 5 ∨ k = 8 ∨ k = 11)
def oneB (b : Bool) : Nat := if b then 1 else 0
def cntT (xs : List OpR) : Nat := (xs.map fun x => oneB (isT x.k.toNat)).sum
def cntG (xs : List OpR) : Nat := (xs.map fun x => oneB (isG x.k.toNat)).sum
structure Uq (l : List Th) : Prop where
  nd : l.Nodup
  uq : ∀ a v w, (a, v) ∈ l → (a, w) ∈ l → v = w
theorem mem_addK {l : List Th} {k p : Th} : p ∈ addK l k ↔ p ∈ l ∨ p = k := by
  unfold addK
  split
  · rename_i h
    exact ⟨.inl, fun h' => h'.elim id fun e => by rw [e]; exact h⟩
  · rw [List.mem_append, List.mem_singleton]
theorem mem_delK {l : List Th} {k p : Th} : p ∈ delK l k ↔ p ∈ l ∧ p ≠ k := by
  unfold delK
  rw [List.mem_filter]
  simp
theorem Uq.nil : Uq [] := ⟨List.nodup_nil, fun _ _ _ h => by cases h⟩
theorem Uq.add {l : List Th} (h : Uq l) {a u : Int} (hn : ∀ w, (a, w) ∉ l) : Uq (addK l (a, u)) ∧ (addK l (a, u)).length = l.length + 1 := by
  have e : addK l (a, u) = l ++ [(a, u)] := by unfold addK; rw [if_neg (hn u)]
  refine ⟨⟨?_, fun b v w h1 h2 => ?_⟩, by rw [e, List.length_append]; rfl⟩
  · rw [e, List.nodup_append]
    refine ⟨h.nd, by simp, fun x hx y hy => ?_⟩
    rw [List.mem_singleton] at hy
    intro e; subst e; subst hy
    exact hn u hx
  · rw [mem_addK] at h1 h2
    rcases h1 with h1 | h1 <;> rcases h2 with h2 | h2
    · exact h.uq b v w h1 h2
    · injection h2 with e1 e2; subst e1; exact absurd h1 (hn v)
    · injection h1 with e1 e2; subst e1; exact absurd h2 (hn w)
    · injection h1 with e1 e2; injection h2 with e3 e4; rw [e2, e4]
theorem del_len : ∀ (l : List Th) (k : Th), l.Nodup → k ∈ l → (delK l k).length + 1 = l.length
  | [], k, _, h => by cases h
  | x :: r, k, hn, h => by
    rw [List.nodup_cons] at hn
    by_cases e : x = k
    · subst e
      have e2 : delK (x :: r) x = r := by
        unfold delK
        rw [List.filter_cons]
        simp only [ne_eq, not_true_eq_false, decide_false, Bool.false_eq_true, if_false]
        rw [List.filter_eq_self]
        intro a ha
        simp only [decide_not, Bool.not_eq_true', decide_eq_false_iff_not]
        intro e; subst e; exact hn.1 ha
      rw [e2]; rfl
    · have h2 : k ∈ r := by
        rcases List.mem_cons.1 h with h | h
        · exact absurd h.symm e
        · exact h
      have e2 : delK (x :: r) k = x :: delK r k := by
        unfold delK
        rw [List.filter_cons]
        simp [e]
      rw [e2, List.length_cons, del_len r k hn.2 h2, List.length_cons]
theorem Uq.del {l : List Th} (h : Uq l) {a u : Int} (hm : (a, u) ∈ l) : Uq (delK l (a, u)) ∧ (delK l (a, u)).length + 1 = l.length ∧ ∀ w, (a, w) ∉ delK l (a, u) := by
  refine ⟨⟨?_, fun b v w h1 h2 => h.uq b v w (mem_delK.1 h1).1 (mem_delK.1 h2).1⟩, del_len l _ h.nd hm, fun w hw => ?_⟩
  · unfold delK; exact h.nd.filter _
  · obtain ⟨h1, h2⟩ := mem_delK.1 hw
    exact h2 (by rw [h.uq a w u h1 hm])
theorem next_len {l l' : List Th} {k : Nat} {t a o : Int} (h : Uq l) (hn : nextO l k t a o = some l') : Uq l' ∧ l'.length + oneB (isG k) = l.length + oneB (isT k) ∧ ((k = 17 ∨ k = 21) → 0 ≤ t) := by
  have hgr : ∀ {a : Int}, ¬ a ≤ great l → ∀ w, (a, w) ∉ l := fun {a} hg w hw => hg (great_ge l (a, w) hw)
  unfold nextO at hn
  split at hn <;> (try split at hn) <;> first
    | (injection hn with hn; subst hn; rename_i c; exact ⟨(h.add (hgr fun e => c (.inr e))).1, by rw [(h.add (hgr fun e => c (.inr e))).2]; rfl, fun h => by simp at h⟩)
    | (injection hn with hn; subst hn; rename_i c; exact ⟨(h.del c).1, (h.del c).2.1, fun h => by simp at h⟩)
    | (injection hn with hn; subst hn; rename_i c; exact ⟨((h.del c).1.add (h.del c).2.2).1, by rw [((h.del c).1.add (h.del c).2.2).2]; exact (h.del c).2.1, fun h => by simp at h⟩)
    | (injection hn with hn; subst hn; rename_i c; exact ⟨h, rfl, fun _ => c.1⟩)
    | (injection hn with hn; subst hn; rename_i c; exact ⟨h, rfl, fun _ => c⟩)
    | (injection hn with hn; subst hn; refine ⟨h, ?_, ?_⟩ <;> simp_all [isT, isG, oneB])
    | cases hn
theorem step_len {l l' : List Th} {x : OpR} (h : Uq l) (hn : stepT l x = some l') : Uq l' ∧ l'.length + oneB (isG x.k.toNat) = l.length + oneB (isT x.k.toNat) ∧ ((x.k.toNat = 17 ∨ x.k.toNat = 21) → 0 ≤ x.t) := by
  unfold stepT at hn
  split at hn
  · exact next_len h hn
  · cases hn
theorem run_len {xs : List OpR} : ∀ {l l' : List Th}, Uq l → runT l xs = some l' → Uq l' ∧ l'.length + cntG xs = l.length + cntT xs ∧ ∀ x ∈ xs, (x.k.toNat = 17 ∨ x.k.toNat = 21) → 0 ≤ x.t := by
  induction xs with
  | nil =>
    intro l l' h hn
    injection hn with hn
    subst hn
    exact ⟨h, rfl, fun _ h => by cases h⟩
  | cons x xs ih =>
    intro l l' h hn
    have hn : (stepT l x).bind (fun l1 => runT l1 xs) = some l' := hn
    cases hs : stepT l x with
    | none => rw [hs] at hn; cases hn
    | some l1 =>
      rw [hs] at hn
      obtain ⟨h1, h2, h3⟩ := step_len h hs
      obtain ⟨h4, h5, h6⟩ := ih h1 hn
      refine ⟨h4, ?_, fun y hy => ?_⟩
      · simp only [cntG, cntT, List.map_cons, List.sum_cons] at h5 ⊢
        omega
      · rcases List.mem_cons.1 hy with rfl | hy
        · exact h3
        · exact h6 y hy
theorem tidyO_run {xs : List OpR} (h : tidyO xs = true) : runT [] xs = some [] := by
  unfold tidyO at h
  split at h
  · assumption
  · cases h
theorem run_tidyO {xs : List OpR} (h : runT [] xs = some []) : tidyO xs = true := by
  unfold tidyO
  rw [h]
theorem tidy_count {xs : List OpR} (h : tidyO xs = true) : cntT xs = cntG xs := by
  have := (run_len Uq.nil (tidyO_run h)).2.1
  simp only [List.length_nil] at this
  omega
theorem tidy_wait {xs : List OpR} (h : tidyO xs = true) : ∀ x ∈ xs, (x.k.toNat = 17 ∨ x.k.toNat = 21) → 0 ≤ x.t := (run_len Uq.nil (tidyO_run h)).2.2
theorem tidy_app {xs ys : List OpR} (h : tidyO xs = true) : tidyO (xs ++ ys) = tidyO ys := by
  unfold tidyO
  rw [runT_app, tidyO_run h]
  rfl
theorem cntT_app (xs ys : List OpR) : cntT (xs ++ ys) = cntT xs + cntT ys := by simp [cntT]
theorem cntG_app (xs ys : List OpR) : cntG (xs ++ ys) = cntG xs + cntG ys := by simp [cntG]
theorem isT_isG (k : Nat) (h : isG k = true) : isT k = false := by
  simp only [isG, isT, decide_eq_true_eq, decide_eq_false_iff_not] at h ⊢
  omega
/-- One that gives back, left out: not tidy. -/
theorem tidy_less {xs : List OpR} (h : tidyO xs = true) (i : Nat) (hi : i < xs.length) (hg : isG xs[i].k.toNat = true) : tidyO (xs.take i ++ xs.drop (i + 1)) = false := by
  cases hb : tidyO (xs.take i ++ xs.drop (i + 1)) with
  | false => rfl
  | true =>
    have h1 := tidy_count h
    have h2 := tidy_count hb
    have e : xs = xs.take i ++ ([xs[i]] ++ xs.drop (i + 1)) := by
      rw [List.singleton_append, List.getElem_cons_drop, List.take_append_drop]
    rw [e, cntT_app, cntT_app, cntG_app, cntG_app] at h1
    rw [cntT_app, cntG_app] at h2
    have e3 : cntG [xs[i]] = 1 := by simp [cntG, hg, oneB]
    have e4 : cntT [xs[i]] = 0 := by simp [cntT, isT_isG _ hg, oneB]
    omega
end Go.Proofs.YtmjpaaippilioaaDoor
