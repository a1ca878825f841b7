import Derived.Test.YtmjpaaippilioaaDoorSlc
import Derived.Deep.Slices
import Derived.OpenShut
import Derived.ChangeSlices
import Derived.ProofKit
import Derived.Deep.Fields
import Derived.ChangeSame
namespace Go.Proofs.YtmjpaaippilioaaDoor
open Go.RowKit Go.ChangeShapes Go.WideShapes Go.Deep
section
variable {H : Type} {enc : TypeId × Value → H} {P : Program} {w : World} {base : Nat} {spare : Nat → Bool} {held : Bool}
theorem open_slice_fields {t e : TypeId} {fs : Array Field} {fuel : Nat} {cs : List Value} {x : DataW H × List MemPlace} (ht : P.underlying t = some (.slice e)) (he : P.underlying e = some (.struct fs))
    (hone : oneCellFields P fs = true) (hC : P.cellsOf e = fs.size) (h : DataW.trod enc P w base spare held fuel t cs = some x) :
    (cs = [.slice none 0 0] ∧ x = (.nil, [])) ∨
    ∃ (a : Addr) (len cap m : Nat) (D : Nat → DataW H) (Pl : Nat → List MemPlace), cs = [.slice (some a) len cap] ∧ base ≤ a.block ∧ len ≤ cap ∧ cap ≤ maxLen ∧ m = (if spare a.block then cap else len) ∧
      x = (.slice ((List.range len).map D) ((List.range (m - len)).map fun j => D (len + j)), MemPlace.row a (m * fs.size) ++ (List.range m).flatMap Pl) ∧
      ∀ i, i < m → ∃ (ys : List (DataW H × List MemPlace)) (n : Nat), D i = .agg (ys.map (·.1)) ∧ Pl i = ys.flatMap (·.2) ∧ ys.length = fs.size ∧
        ∀ (j : Nat) (f : Field), fs[j]? = some f → ∃ (v : Value) (y : DataW H × List MemPlace), w.cell? (a.add (i * fs.size + j)) = some v ∧ ys[j]? = some y ∧ DataW.trod enc P w base spare held n f.type [v] = some y := by
  rcases open_slice ht h with h0 | ⟨a, len, cap, m, n, D, Pl, hcs, hb, hl, hm, hmm, hx, hi⟩
  · exact .inl h0
  · refine .inr ⟨a, len, cap, m, D, Pl, hcs, hb, hl, hm, hmm, by rw [hC] at hx; exact hx, fun i him => ?_⟩
    obtain ⟨cs', hc, ht'⟩ := hi i him
    rw [hC] at hc
    obtain ⟨ys, n', hn', hy, hlen, hyl, hf⟩ := DataW.trod_struct he ht'
    obtain ⟨_, hcl, hat⟩ := World.cells?_some hc
    simp only [Prod.mk.injEq] at hy
    refine ⟨ys, n', hy.1, hy.2, hyl, fun j f hj => ?_⟩
    obtain ⟨ho, hk⟩ := hone_of hone j f hj
    have hjl : j < fs.size := (Array.getElem?_eq_some_iff.1 hj).1
    have hcell := hat j hjl
    have hv : cs'[j]? = some (cs'[j]'(by omega)) := List.getElem?_eq_getElem (by omega)
    have h1 := hf j f hj
    rw [ho, hk] at h1
    have hone' : (cs'.drop j).take 1 = [cs'[j]'(by omega)] := by
      rw [List.drop_eq_getElem_cons (by omega)]
      rfl
    rw [hone'] at h1
    have hys : ys[j]? = some (ys[j]'(by omega)) := List.getElem?_eq_getElem (by omega)
    refine ⟨_, _, ?_, hys, h1.trans hys⟩
    rw [← Go.Deep.add_add, hcell, hv]
end
theorem add_cell {W : World} {a : Addr} {n : Nat} {v : Value} (h : W.cell? (a.add n) = some v) : a.add n = ⟨a.block, a.off + n, none⟩ := by
  have hs := World.cell?_spot h
  cases hx : a.add n with
  | mk b o sp =>
    have hb : (a.add n).block = a.block := by unfold Addr.add; split <;> rfl
    have ho : (a.add n).off = a.off + n := by
      unfold Addr.add
      split
      · rename_i h0; have : n = 0 := by simpa using h0
        subst this; rfl
      · rfl
    rw [hx] at hs hb ho
    simp only at hs hb ho
    subst hs; subst hb; subst ho
    rfl
/-- An argument that is a slice of numbers. -/
theorem open_nums {H : Type} {enc : TypeId × Value → H} {P : Program} {W : World} {base : Nat} {t e : TypeId} {k : IntKind} {v : Value} {d : DataW H} {p : List MemPlace} {spare : Nat → Bool} {held : Bool} {r : Reach}
    (ht : P.underlying t = some (.slice e)) (he : P.underlying e = some (.int k)) (hc : P.cellsOf e = 1) (hv : Value.okWide P W r base t v) (h : DataW.Trod enc P W 0 spare held t v d p) :
    ∃ (A : Option Addr) (len cap : Nat) (zs : List Int), v = .slice A len cap ∧ len ≤ cap ∧ cap ≤ maxLen ∧ zs.length = len ∧ Rd W W.heap.size 1 A len (zs.map (Value.int k)) ∧ ∀ n ∈ zs, (Lit.int k n).wf = true := by
  obtain ⟨a0, len0, cap0, rfl⟩ := okWide_slice ht hv
  obtain ⟨fuel, hf⟩ := h
  rcases open_ints ht he hc hf with ⟨hcs, _⟩ | ⟨a, len, cap, zs, hcs, _, hl, hm, hlen, _, hcell, hw⟩
  · simp [Value.cells] at hcs
    obtain ⟨rfl, rfl, rfl⟩ := hcs
    exact ⟨none, 0, 0, [], rfl, Nat.le_refl _, by unfold maxLen; omega, rfl, Rd.nil _ _ _ _, fun _ h => by cases h⟩
  · simp [Value.cells] at hcs
    obtain ⟨rfl, rfl, rfl⟩ := hcs
    have hlz : len0 ≤ zs.length := by rw [hlen]; split <;> omega
    refine ⟨some a, len0, cap0, zs.take len0, rfl, hl, hm, by rw [List.length_take]; omega, ⟨by simp; omega, fun hp => ?_⟩, fun n hn => hw n (List.mem_of_mem_take hn)⟩
    simp at hp
    have c0 := hcell 0 (by omega)
    have ha : a = ⟨a.block, a.off, none⟩ := by have := add_cell c0; simpa only [Addr.add_zero', Nat.add_zero] using this
    have hab : a.block < W.heap.size := by have := World.block_lt_of_cell? W _ c0; rw [add_cell c0] at this; exact this
    refine ⟨a.block, a.off, congrArg some ha, hab, fun j u hu => ?_⟩
    have hj : j < len0 := by
      have := (List.getElem?_eq_some_iff.1 hu).1
      simp at this
      omega
    have cj := hcell j (by omega)
    rw [add_cell cj] at cj
    rw [cj, ← hu]
    rw [List.getElem?_map, List.getElem?_take, if_pos hj]
    have hjz : j < zs.length := by omega
    simp [List.getD, List.getElem?_eq_getElem hjz]
end Go.Proofs.YtmjpaaippilioaaDoor
namespace Go.Proofs.YtmjpaaippilioaaDoor
open Go.RowKit Go.ChangeShapes Go.WideShapes Go.Deep

theorem flat_get {α : Type} (c : α → List Value) (m : Nat) (hc : ∀ x, (c x).length = m) : ∀ (xs : List α) (i j : Nat) (h : i < xs.length), j < m → (xs.flatMap c)[i * m + j]? = (c xs[i])[j]? := by
  intro xs
  induction xs with
  | nil => intro i j h; simp at h
  | cons x xs ih =>
    intro i j h hj
    rw [List.flatMap_cons]
    cases i with
    | zero => rw [Nat.zero_mul, Nat.zero_add, List.getElem?_append_left (by rw [hc]; exact hj)]; rfl
    | succ i =>
      rw [List.getElem?_append_right (by rw [hc, Nat.add_mul]; omega), hc, show (i + 1) * m + j - m = i * m + j from by rw [Nat.add_mul]; omega]
      exact ih i j (by simpa using h) hj
theorem flat_len {α : Type} (c : α → List Value) (m : Nat) (hc : ∀ x, (c x).length = m) : ∀ (xs : List α), (xs.flatMap c).length = xs.length * m := by
  intro xs
  induction xs with
  | nil => simp
  | cons x xs ih => rw [List.flatMap_cons, List.length_append, hc, ih, List.length_cons, Nat.add_mul]; omega
/-- What is read of a slice of structs. -/
theorem Rd.rows {α : Type} {c : α → List Value} {m : Nat} (hc : ∀ x, (c x).length = m) (hm : 0 < m) {w : World} {B n : Nat} {A : Option Addr} {xs : List α} (h : Rd w B m A n (xs.flatMap c)) :
    n = xs.length ∧ (0 < n → ∃ g off, A = some ⟨g, off, none⟩ ∧ g < B ∧ ∀ i (hi : i < xs.length) j u, (c xs[i])[j]? = some u → w.cell? ⟨g, off + i * m + j, none⟩ = some u) := by
  have hl := h.1
  rw [flat_len c m hc] at hl
  have hn : n = xs.length := Nat.eq_of_mul_eq_mul_right hm hl.symm
  refine ⟨hn, fun hp => ?_⟩
  obtain ⟨g, off, e, hb, hcell⟩ := h.2 (by rw [flat_len c m hc]; exact Nat.mul_pos (by omega) hm)
  refine ⟨g, off, e, hb, fun i hi j u hu => ?_⟩
  have hj : j < m := by have := (List.getElem?_eq_some_iff.1 hu).1; rw [hc] at this; exact this
  have := hcell (i * m + j) u (by rw [flat_get c m hc xs i j hi hj]; exact hu)
  rw [Nat.add_assoc]; exact this
theorem Rd.of_rows {α : Type} {c : α → List Value} {m : Nat} (hc : ∀ x, (c x).length = m) (hm : 0 < m) {w : World} {g off : Nat} {xs : List α} (hg : g < w.heap.size) (h : ∀ i (hi : i < xs.length) j, j < m → w.cell? ⟨g, off + i * m + j, none⟩ = (c xs[i])[j]?) :
    Rd w w.heap.size m (some ⟨g, off, none⟩) xs.length (xs.flatMap c) := by
  refine ⟨flat_len c m hc xs, fun _ => ⟨g, off, rfl, hg, fun j u hu => ?_⟩⟩
  have hj : j < xs.length * m := by have := (List.getElem?_eq_some_iff.1 hu).1; rw [flat_len c m hc] at this; exact this
  have hi : j / m < xs.length := (Nat.div_lt_iff_lt_mul hm).2 hj
  have e : j / m * m + j % m = j := Nat.div_add_mod' j m
  have h1 := flat_get c m hc xs (j / m) (j % m) hi (Nat.mod_lt _ hm)
  have h2 := h (j / m) hi (j % m) (Nat.mod_lt _ hm)
  rw [Nat.add_assoc, e] at h2
  rw [e] at h1
  rw [h2, ← h1, hu]
/-- An argument that is a slice of structs, each read by 'key'. -/
theorem open_rows {α : Type} {H : Type} {enc : TypeId × Value → H} {P : Program} {W : World} {base : Nat} {t e : TypeId} {v : Value} {d : DataW H} {p : List MemPlace} {spare : Nat → Bool} {held : Bool} {r : Reach}
    (V : α → List Value) (Ok : α → Prop) (m : Nat) (hV : ∀ x, (V x).length = m) (hm0 : 0 < m) (key : ∀ (n : Nat) (cs : List Value) (y : DataW H × List MemPlace), DataW.trod enc P W 0 spare held n e cs = some y → ∃ x, cs = V x ∧ Ok x)
    (ht : P.underlying t = some (.slice e)) (hc : P.cellsOf e = m) (hv : Value.okWide P W r base t v) (h : DataW.Trod enc P W 0 spare held t v d p) :
    ∃ (A : Option Addr) (len cap : Nat) (xs : List α), v = .slice A len cap ∧ len ≤ cap ∧ cap ≤ maxLen ∧ xs.length = len ∧ Rd W W.heap.size m A len (xs.flatMap V) ∧ ∀ x ∈ xs, Ok x := by
  obtain ⟨a0, len0, cap0, rfl⟩ := okWide_slice ht hv
  obtain ⟨fuel, hf⟩ := h
  rcases open_slice ht hf with ⟨hcs, _⟩ | ⟨a, len, cap, k, n, D, Pl, hcs, _, hl, hm, hmm, _, hi⟩
  · simp [Value.cells] at hcs
    obtain ⟨rfl, rfl, rfl⟩ := hcs
    exact ⟨none, 0, 0, [], rfl, Nat.le_refl _, by unfold maxLen; omega, rfl, Rd.nil _ _ _ _, fun _ h => by cases h⟩
  · simp [Value.cells] at hcs
    obtain ⟨rfl, rfl, rfl⟩ := hcs
    have hlk : len0 ≤ k := by rw [hmm]; split <;> omega
    have each : ∀ i : Fin len0, ∃ x, (∀ j, j < m → W.cell? (a.add (i.1 * m + j)) = (V x)[j]?) ∧ Ok x := by
      intro i
      obtain ⟨cs', hcell, htr⟩ := hi i.1 (by omega)
      obtain ⟨x, rfl, hok⟩ := key n cs' _ htr
      rw [hc] at hcell
      obtain ⟨_, _, hat⟩ := World.cells?_some hcell
      exact ⟨x, fun j hj => by rw [← Go.Deep.add_add]; exact hat j hj, hok⟩
    refine ⟨some a, len0, cap0, List.ofFn fun i => Classical.choose (each i), rfl, hl, hm, by simp, ?_, ?_⟩
    · by_cases h0 : len0 = 0
      · subst h0; simpa using Rd.nil _ _ _ _
      · obtain ⟨x0, hx0, _⟩ := each ⟨0, by omega⟩
        have c0 := hx0 0 hm0
        simp only [Nat.zero_mul, Nat.add_zero, Addr.add_zero'] at c0
        rw [List.getElem?_eq_getElem (by rw [hV]; exact hm0)] at c0
        have hspot : a.add 0 = ⟨a.block, a.off + 0, none⟩ := add_cell (by rw [Addr.add_zero']; exact c0)
        have ha : a = ⟨a.block, a.off, none⟩ := by simpa only [Addr.add_zero', Nat.add_zero] using hspot
        have hab : a.block < W.heap.size := World.block_lt_of_cell? W _ c0
        have hr := Rd.of_rows (c := V) (m := m) hV hm0 (w := W) (g := a.block) (off := a.off) (xs := List.ofFn fun i => Classical.choose (each i)) hab (fun i hi j hj => by
          have hil : i < len0 := by simpa using hi
          have hsp := (Classical.choose_spec (each ⟨i, hil⟩)).1 j hj
          have hu : (V (Classical.choose (each ⟨i, hil⟩)))[j]? = some ((V (Classical.choose (each ⟨i, hil⟩)))[j]'(by rw [hV]; exact hj)) := List.getElem?_eq_getElem _
          rw [hu] at hsp
          rw [add_cell hsp] at hsp
          rw [Nat.add_assoc, hsp]
          simp)
        rw [List.length_ofFn] at hr
        rw [congrArg some ha]; exact hr
    · intro x hx
      obtain ⟨i, hi, rfl⟩ := List.getElem_of_mem hx
      simp only [List.getElem_ofFn]
      exact (Classical.choose_spec (each ⟨i, by simpa using hi⟩)).2
end Go.Proofs.YtmjpaaippilioaaDoor
