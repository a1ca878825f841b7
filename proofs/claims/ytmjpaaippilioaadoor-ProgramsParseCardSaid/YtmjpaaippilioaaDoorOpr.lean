import Derived.Test.YtmjpaaippilioaaDoorOpn
namespace Go.Proofs.YtmjpaaippilioaaDoor
open Go.RowKit Go.ChangeShapes Go.WideShapes Go.Deep

theorem flat_get {α : Type} (c : α → List Value) (m : Nat) (hc : ∀ x, (c x).length = m) : ∀ (xs : List α) (i j : Nat) (h : i < xs.length), j < m → (xs.flatMap c)[i * m + j]? = (c xs[i])[j]? := by
  intro xs
  induction xs with
  | nil => intro i j h; simp at h
  | cons x xs ih =>
    intro i j h hj
    rw [List.flatMap_cons]
    cases i with
    | zero => rw [Nat.zero_mul, Nat.zero_add, List.getElem?_append_left (by rw [hc]; exact hj)]; rfl
    | succ i =>
      rw [List.getElem?_append_right (by rw [hc, Nat.add_mul]; omega), hc, show (i + 1) * m + j - m = i * m + j from by rw [Nat.add_mul]; omega]
      exact ih i j (by simpa using h) hj
theorem flat_len {α : Type} (c : α → List Value) (m : Nat) (hc : ∀ x, (c x).length = m) : ∀ (xs : List α), (xs.flatMap c).length = xs.length * m := by
  intro xs
  induction xs with
  | nil => simp
  | cons x xs ih => rw [List.flatMap_cons, List.length_append, hc, ih, List.length_cons, Nat.add_mul]; omega
/-- What is read of a slice of structs. -/
theorem Rd.rows {α : Type} {c : α → List Value} {m : Nat} (hc : ∀ x, (c x).length = m) (hm : 0 < m) {w : World} {B n : Nat} {A : Option Addr} {xs : List α} (h : Rd w B m A n (xs.flatMap c)) :
    n = xs.length ∧ (0 < n → ∃ g off, A = some ⟨g, off, none⟩ ∧ g < B ∧ ∀ i (hi : i < xs.length) j u, (c xs[i])[j]? = some u → w.cell? ⟨g, off + i * m + j, none⟩ = some u) := by
  have hl := h.1
  rw [flat_len c m hc] at hl
  have hn : n = xs.length := Nat.eq_of_mul_eq_mul_right hm hl.symm
  refine ⟨hn, fun hp => ?_⟩
  obtain ⟨g, off, e, hb, hcell⟩ := h.2 (by rw [flat_len c m hc]; exact Nat.mul_pos (by omega) hm)
  refine ⟨g, off, e, hb, fun i hi j u hu => ?_⟩
  have hj : j < m := by have := (List.getElem?_eq_some_iff.1 hu).1; rw [hc] at this; exact this
  have := hcell (i * m + j) u (by rw [flat_get c m hc xs i j hi hj]; exact hu)
  rw [Nat.add_assoc]; exact this
theorem Rd.of_rows {α : Type} {c : α → List Value} {m : Nat} (hc : ∀ x, (c x).length = m) (hm : 0 < m) {w : World} {g off : Nat} {xs : List α} (hg : g < w.heap.size) (h : ∀ i (hi : i < xs.length) j, j < m → w.cell? ⟨g, off + i * m + j, none⟩ = (c xs[i])[j]?) :
    Rd w w.heap.size m (some ⟨g, off, none⟩) xs.length (xs.flatMap c) := by
  refine ⟨flat_len c m hc xs, fun _ => ⟨g, off, rfl, hg, fun j u hu => ?_⟩⟩
  have hj : j < xs.length * m := by have := (List.getElem?_eq_some_iff.1 hu).1; rw [flat_len c m hc] at this; exact this
  have hi : j / m < xs.length := (Nat.div_lt_iff_lt_mul hm).2 hj
  have e : j / m * m + j % m = j := Nat.div_add_mod' j m
  have h1 := flat_get c m hc xs (j / m) (j % m) hi (Nat.mod_lt _ hm)
  have h2 := h (j / m) hi (j % m) (Nat.mod_lt _ hm)
  rw [Nat.add_assoc, e] at h2
  rw [e] at h1
  rw [h2, ← h1, hu]
/-- An argument that is a slice of structs, each read by 'key'. -/
theorem open_rows {α : Type} {H : Type} {enc : TypeId × Value → H} {P : Program} {W : World} {base : Nat} {t e : TypeId} {v : Value} {d : DataW H} {p : List MemPlace} {spare : Nat → Bool} {held : Bool} {r : Reach}
    (V : α → List Value) (Ok : α → Prop) (m : Nat) (hV : ∀ x, (V x).length = m) (hm0 : 0 < m) (key : ∀ (n : Nat) (cs : List Value) (y : DataW H × List MemPlace), DataW.trod enc P W 0 spare held n e cs = some y → ∃ x, cs = V x ∧ Ok x)
    (ht : P.underlying t = some (.slice e)) (hc : P.cellsOf e = m) (hv : Value.okWide P W r base t v) (h : DataW.Trod enc P W 0 spare held t v d p) :
    ∃ (A : Option Addr) (len cap : Nat) (xs : List α), v = .slice A len cap ∧ len ≤ cap ∧ cap ≤ maxLen ∧ xs.length = len ∧ Rd W W.heap.size m A len (xs.flatMap V) ∧ ∀ x ∈ xs, Ok x := by
  obtain ⟨a0, len0, cap0, rfl⟩ := okWide_slice ht hv
  obtain ⟨fuel, hf⟩ := h
  rcases open_slice ht hf with ⟨hcs, _⟩ | ⟨a, len, cap, k, n, D, Pl, hcs, _, hl, hm, hmm, _, hi⟩
  · simp [Value.cells] at hcs
    obtain ⟨rfl, rfl, rfl⟩ := hcs
    exact ⟨none, 0, 0, [], rfl, Nat.le_refl _, by unfold maxLen; omega, rfl, Rd.nil _ _ _ _, fun _ h => by cases h⟩
  · simp [Value.cells] at hcs
    obtain ⟨rfl, rfl, rfl⟩ := hcs
    have hlk : len0 ≤ k := by rw [hmm]; split <;> omega
    have each : ∀ i : Fin len0, ∃ x, (∀ j, j < m → W.cell? (a.add (i.1 * m + j)) = (V x)[j]?) ∧ Ok x := by
      intro i
      obtain ⟨cs', hcell, htr⟩ := hi i.1 (by omega)
      obtain ⟨x, rfl, hok⟩ := key n cs' _ htr
      rw [hc] at hcell
      obtain ⟨_, _, hat⟩ := World.cells?_some hcell
      exact ⟨x, fun j hj => by rw [← Go.Deep.add_add]; exact hat j hj, hok⟩
    refine ⟨some a, len0, cap0, List.ofFn fun i => Classical.choose (each i), rfl, hl, hm, by simp, ?_, ?_⟩
    · by_cases h0 : len0 = 0
      · subst h0; simpa using Rd.nil _ _ _ _
      · obtain ⟨x0, hx0, _⟩ := each ⟨0, by omega⟩
        have c0 := hx0 0 hm0
        simp only [Nat.zero_mul, Nat.add_zero, Addr.add_zero'] at c0
        rw [List.getElem?_eq_getElem (by rw [hV]; exact hm0)] at c0
        have hspot : a.add 0 = ⟨a.block, a.off + 0, none⟩ := add_cell (by rw [Addr.add_zero']; exact c0)
        have ha : a = ⟨a.block, a.off, none⟩ := by simpa only [Addr.add_zero', Nat.add_zero] using hspot
        have hab : a.block < W.heap.size := World.block_lt_of_cell? W _ c0
        have hr := Rd.of_rows (c := V) (m := m) hV hm0 (w := W) (g := a.block) (off := a.off) (xs := List.ofFn fun i => Classical.choose (each i)) hab (fun i hi j hj => by
          have hil : i < len0 := by simpa using hi
          have hsp := (Classical.choose_spec (each ⟨i, hil⟩)).1 j hj
          have hu : (V (Classical.choose (each ⟨i, hil⟩)))[j]? = some ((V (Classical.choose (each ⟨i, hil⟩)))[j]'(by rw [hV]; exact hj)) := List.getElem?_eq_getElem _
          rw [hu] at hsp
          rw [add_cell hsp] at hsp
          rw [Nat.add_assoc, hsp]
          simp)
        rw [List.length_ofFn] at hr
        rw [congrArg some ha]; exact hr
    · intro x hx
      obtain ⟨i, hi, rfl⟩ := List.getElem_of_mem hx
      simp only [List.getElem_ofFn]
      exact (Classical.choose_spec (each ⟨i, by simpa using hi⟩)).2
end Go.Proofs.YtmjpaaippilioaaDoor
