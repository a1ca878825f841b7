import Derived.Test.YtllicaibgjjidaaRhC
namespace Go.Proofs.Ytllicaibgjjidaa
open Go.ChangeShapes Go.WideShapes Go.ChangeAt Go.RowKit Go.Deep

/-- A slice that stands in a cell: its elements, each read by 'key'. -/
theorem rows_cs {α : Type} {H : Type} {enc : TypeId × Value → H} {P : Program} {W : World} {t e : TypeId} {fuel : Nat} {cs : List Value} {y : DataW H × List MemPlace} {spare : Nat → Bool} {held : Bool}
    (V : α → List Value) (Ok : α → Prop) (m : Nat) (hV : ∀ x, (V x).length = m) (hm0 : 0 < m) (key : ∀ (n : Nat) (cs : List Value) (y : DataW H × List MemPlace), DataW.trod enc P W 0 spare held n e cs = some y → ∃ x, cs = V x ∧ Ok x)
    (ht : P.underlying t = some (.slice e)) (hc : P.cellsOf e = m) (hf : DataW.trod enc P W 0 spare held fuel t cs = some y) :
    ∃ (A : Option Addr) (len cap : Nat) (xs : List α), cs = [.slice A len cap] ∧ len ≤ cap ∧ cap ≤ maxLen ∧ xs.length = len ∧ Rd W W.heap.size m A len (xs.flatMap V) ∧ ∀ x ∈ xs, Ok x := by
  rcases open_slice ht hf with ⟨rfl, _⟩ | ⟨a, len0, cap0, k, n, D, Pl, rfl, _, hl, hm, hmm, _, hi⟩
  · exact ⟨none, 0, 0, [], rfl, Nat.le_refl _, by unfold maxLen; omega, rfl, Rd.nil _ _ _ _, fun _ h => by cases h⟩
  · have hlk : len0 ≤ k := by rw [hmm]; split <;> omega
    have each : ∀ i : Fin len0, ∃ x, (∀ j, j < m → W.cell? (a.add (i.1 * m + j)) = (V x)[j]?) ∧ Ok x := by
      intro i
      obtain ⟨cs', hcell, htr⟩ := hi i.1 (by omega)
      obtain ⟨x, rfl, hok⟩ := key n cs' _ htr
      rw [hc] at hcell
      obtain ⟨_, _, hat⟩ := World.cells?_some hcell
      exact ⟨x, fun j hj => by rw [← Go.Deep.add_add]; exact hat j hj, hok⟩
    refine ⟨some a, len0, cap0, List.ofFn fun i => Classical.choose (each i), rfl, hl, hm, by simp, ?_, ?_⟩
    · by_cases h0 : len0 = 0
      · subst h0; simpa using Rd.nil _ _ _ _
      · obtain ⟨x0, hx0, _⟩ := each ⟨0, by omega⟩
        have c0 := hx0 0 hm0
        simp only [Nat.zero_mul, Nat.add_zero, Addr.add_zero'] at c0
        rw [List.getElem?_eq_getElem (by rw [hV]; exact hm0)] at c0
        have hspot : a.add 0 = ⟨a.block, a.off + 0, none⟩ := add_cell (by rw [Addr.add_zero']; exact c0)
        have ha : a = ⟨a.block, a.off, none⟩ := by simpa only [Addr.add_zero', Nat.add_zero] using hspot
        have hab : a.block < W.heap.size := World.block_lt_of_cell? W _ c0
        have hr := Rd.of_rows (c := V) (m := m) hV hm0 (w := W) (g := a.block) (off := a.off) (xs := List.ofFn fun i => Classical.choose (each i)) hab (fun i hi j hj => by
          have hil : i < len0 := by simpa using hi
          have hsp := (Classical.choose_spec (each ⟨i, hil⟩)).1 j hj
          have hu : (V (Classical.choose (each ⟨i, hil⟩)))[j]? = some ((V (Classical.choose (each ⟨i, hil⟩)))[j]'(by rw [hV]; exact hj)) := List.getElem?_eq_getElem _
          rw [hu] at hsp
          rw [add_cell hsp] at hsp
          rw [Nat.add_assoc, hsp]
          simp)
        rw [List.length_ofFn] at hr
        rw [congrArg some ha]; exact hr
    · intro x hx
      obtain ⟨i, hi, rfl⟩ := List.getElem_of_mem hx
      simp only [List.getElem_ofFn]
      exact (Classical.choose_spec (each ⟨i, by simpa using hi⟩)).2
theorem list3 {cs : List Value} (h : cs.length = 3) : ∃ a b c, cs = [a, b, c] := by
  match cs, h with
  | [a, b, c], _ => exact ⟨a, b, c, rfl⟩
set_option maxRecDepth 100000 in
theorem ent_cs {H : Type} {enc : TypeId × Value → H} {W : World} {n : Nat} {cs : List Value} {y : DataW H × List MemPlace} {spare : Nat → Bool} {held : Bool} (h : DataW.trod enc Try.prog W 0 spare held n 39 cs = some y) : ∃ x, cs = En.V x ∧ EnOk x := by
  obtain ⟨xs, k, _, _, hlen, hxl, hf⟩ := DataW.trod_struct Try.underlying39 h
  obtain ⟨a, b, c, rfl⟩ := list3 (hlen.trans (by kernel_rfl))
  have get : ∀ i, i < 3 → ∃ y, xs[i]? = some y := fun i hi => ⟨xs[i]'(by rw [hxl]; exact hi), List.getElem?_eq_getElem _⟩
  obtain ⟨y0, g0⟩ := get 0 (by decide)
  obtain ⟨y1, g1⟩ := get 1 (by decide)
  obtain ⟨y2, g2⟩ := get 2 (by decide)
  have c3 : Try.prog.cellsOf 3 = 1 := by kernel_rfl
  have c24 : Try.prog.cellsOf 36 = 1 := by kernel_rfl
  have c33 : Try.prog.cellsOf 37 = 1 := by kernel_rfl
  have h0 := hf 0 _ rfl
  have h1 := hf 1 _ rfl
  have h2 := hf 2 _ rfl
  simp [g0, g1, g2, c3, c24, c33] at h0 h1 h2
  obtain ⟨x, e0, _, _⟩ := DataW.trod_int Try.underlying3 h0
  obtain ⟨z, e1, _, w1⟩ := DataW.trod_int Try.underlying36 h1
  obtain ⟨u, e2, _, w2⟩ := DataW.trod_int Try.underlying37 h2
  simp at e0 e1 e2
  subst e0 e1 e2
  have bz := bounds_u32 w1
  have bu := bounds_u64 w2
  exact ⟨⟨x, z, u⟩, rfl, bz, bu.1⟩
theorem flat_hds (l : List (Hd × List En)) : l.flatMap (fun p => [p.1.V]) = hds (l.map (·.1)) := by
  induction l with
  | nil => rfl
  | cons p r ih => simp [hds] at ih ⊢; exact ih
set_option maxRecDepth 100000 in
/-- An argument that is a slice of slices of entries. -/
theorem open_dd {H : Type} {enc : TypeId × Value → H} {W : World} {base : Nat} {v : Value} {d : DataW H} {p : List MemPlace} {spare : Nat → Bool} {held : Bool}
    (hv : Value.okWide Try.prog W .any base 22 v) (h : DataW.Trod enc Try.prog W 0 spare held 22 v d p) :
    ∃ (A : Option Addr) (n c : Nat) (hs : List Hd) (qs : List (List En)), v = .slice A n c ∧ n ≤ maxLen ∧ RdD W W.heap.size A n hs qs ∧ ∀ q ∈ qs, ∀ x ∈ q, EnOk x := by
  obtain ⟨A, len, cap, xs, rfl, hl, hm, hx, hr, hok⟩ := open_rows (fun p : Hd × List En => [p.1.V]) (fun p => Rd W W.heap.size 3 p.1.A p.1.n (ens p.2) ∧ ∀ x ∈ p.2, EnOk x) 1 (fun _ => rfl) (by decide) (fun n cs y h => by
    obtain ⟨A, len, cap, q, rfl, _, _, _, hr, hok⟩ := rows_cs En.V EnOk 3 En.len (by decide) (fun _ _ _ h => ent_cs h) Try.underlying32 (by kernel_rfl) h
    exact ⟨(⟨A, len, cap⟩, q), rfl, hr, hok⟩) Try.underlying22 (by kernel_rfl) hv h
  refine ⟨A, len, cap, xs.map (·.1), xs.map (·.2), rfl, Nat.le_trans hl hm, ⟨by rw [← flat_hds]; exact hr, by simpa using hx, by simpa using hx, fun i hi hq => ?_⟩, fun q hq => ?_⟩
  · simp only [List.getElem_map]
    exact (hok _ (List.getElem_mem (by simpa using hi))).1
  · obtain ⟨p, hp, rfl⟩ := List.mem_map.1 hq
    exact (hok p hp).2
set_option maxRecDepth 100000 in
theorem open_u8 {H : Type} {enc : TypeId × Value → H} {W : World} {base : Nat} {v : Value} {d : DataW H} {p : List MemPlace} {spare : Nat → Bool} {held : Bool}
    (hv : Value.okWide Try.prog W .any base 5 v) (h : DataW.Trod enc Try.prog W 0 spare held 5 v d p) :
    ∃ n : Nat, v = .int .u8 n ∧ d = .lit (.int .u8 n) ∧ p = [] ∧ (n : Int) ≤ 255 ∧ (Lit.int .u8 (n : Int)).wf = true := by
  obtain ⟨b, rfl, rfl, rfl, wb⟩ := open_int Try.underlying5 hv h
  have := bounds_u8 wb
  obtain ⟨n, rfl⟩ := Int.eq_ofNat_of_zero_le this.1
  exact ⟨n, rfl, rfl, rfl, this.2, wb⟩
end Go.Proofs.Ytllicaibgjjidaa
