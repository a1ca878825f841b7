import Derived.Test.YtaenclbbiodhfaaLnC
namespace Go.Proofs.Ytaenclbbiodhfaa
open Go.ChangeShapes Go.WideShapes Go.ChangeAt Go.RowKit Go.Deep

theorem slice_lt {P : Program} {W : World} {r : Reach} {base : Nat} {t e : TypeId} {A : Option Addr} {n c : Nat} (ht : P.underlying t = some (.slice e)) (hv : Value.okWide P W r base t (.slice A n c)) : ∀ j, blk A j → j < W.heap.size := by
  rintro j ⟨a, rfl, rfl⟩
  simp only [Value.okWide, ht, Cell.okWide, Cell.ok] at hv
  obtain ⟨_, _, _, _, row, cells, hs, _⟩ := hv
  rcases Nat.lt_or_ge a.block W.heap.size with h | h
  · exact h
  · unfold World.shape? at hs
    rw [Array.getElem?_eq_none h] at hs
    simp at hs
theorem list3 {cs : List Value} (h : cs.length = 3) : ∃ a b c, cs = [a, b, c] := by
  match cs, h with
  | [a, b, c], _ => exact ⟨a, b, c, rfl⟩
/-- What is known of an entry that came in. -/
structure EnOk (e : En) : Prop where
  k : 0 ≤ e.k ∧ e.k ≤ 4294967295
  tok : 0 ≤ e.tok
set_option maxRecDepth 100000 in
theorem ent_cs {H : Type} {enc : TypeId × Value → H} {W : World} {n : Nat} {cs : List Value} {y : DataW H × List MemPlace} {spare : Nat → Bool} {held : Bool} (h : DataW.trod enc Try.prog W 0 spare held n 35 cs = some y) : ∃ x, cs = En.V x ∧ EnOk x := by
  obtain ⟨xs, k, _, _, hlen, hxl, hf⟩ := DataW.trod_struct Try.underlying35 h
  obtain ⟨a, b, c, rfl⟩ := list3 (hlen.trans (by kernel_rfl))
  have get : ∀ i, i < 3 → ∃ y, xs[i]? = some y := fun i hi => ⟨xs[i]'(by rw [hxl]; exact hi), List.getElem?_eq_getElem _⟩
  obtain ⟨y0, g0⟩ := get 0 (by decide)
  obtain ⟨y1, g1⟩ := get 1 (by decide)
  obtain ⟨y2, g2⟩ := get 2 (by decide)
  have c3 : Try.prog.cellsOf 3 = 1 := by kernel_rfl
  have c24 : Try.prog.cellsOf 24 = 1 := by kernel_rfl
  have c33 : Try.prog.cellsOf 33 = 1 := by kernel_rfl
  have h0 := hf 0 _ rfl
  have h1 := hf 1 _ rfl
  have h2 := hf 2 _ rfl
  simp [g0, g1, g2, c3, c24, c33] at h0 h1 h2
  obtain ⟨x, e0, _, _⟩ := DataW.trod_int Try.underlying3 h0
  obtain ⟨z, e1, _, w1⟩ := DataW.trod_int Try.underlying24 h1
  obtain ⟨u, e2, _, w2⟩ := DataW.trod_int Try.underlying33 h2
  simp at e0 e1 e2
  subst e0 e1 e2
  have bz := bounds_u32 w1
  have bu := bounds_u64 w2
  exact ⟨⟨x, z, u⟩, rfl, bz, bu.1⟩
set_option maxRecDepth 100000 in
/-- An argument that is a slice of entries. -/
theorem open_ents {H : Type} {enc : TypeId × Value → H} {W : World} {base : Nat} {v : Value} {d : DataW H} {p : List MemPlace} {spare : Nat → Bool} {held : Bool}
    (hv : Value.okWide Try.prog W .any base 22 v) (h : DataW.Trod enc Try.prog W 0 spare held 22 v d p) :
    ∃ (A : Option Addr) (len cap : Nat) (xs : List En), v = .slice A len cap ∧ len ≤ cap ∧ cap ≤ maxLen ∧ xs.length = len ∧ Rd W W.heap.size 3 A len (ens xs) ∧ (∀ x ∈ xs, EnOk x) ∧ ∀ j, blk A j → j < W.heap.size := by
  obtain ⟨A, len, cap, xs, rfl, hl, hm, hx, hr, hok⟩ := open_rows En.V EnOk 3 En.len (by decide) (fun _ _ _ h => ent_cs h) Try.underlying22 (by kernel_rfl) hv h
  exact ⟨A, len, cap, xs, rfl, hl, hm, hx, hr, hok, slice_lt Try.underlying22 hv⟩
set_option maxRecDepth 100000 in
/-- An argument that is a slice of bytes. -/
theorem open_bytes {H : Type} {enc : TypeId × Value → H} {W : World} {base : Nat} {v : Value} {d : DataW H} {p : List MemPlace} {spare : Nat → Bool} {held : Bool}
    (hv : Value.okWide Try.prog W .any base 25 v) (h : DataW.Trod enc Try.prog W 0 spare held 25 v d p) :
    ∃ (A : Option Addr) (len cap : Nat) (l : List Nat), v = .slice A len cap ∧ len ≤ cap ∧ cap ≤ maxLen ∧ l.length = len ∧ Rd W W.heap.size 1 A len (bz l) ∧ (∀ c ∈ l, c ≤ 255) ∧ ∀ j, blk A j → j < W.heap.size := by
  obtain ⟨A, len, cap, zs, rfl, hl, hm, hz, hr, hw⟩ := open_nums Try.underlying25 Try.underlying5 (by kernel_rfl) hv h
  have e : bz (zs.map Int.toNat) = zs.map (Value.int .u8) := by
    unfold bz
    rw [List.map_map]
    refine List.map_congr_left fun n hn => ?_
    have := bounds_u8 (hw n hn)
    show Value.int .u8 ((n.toNat : Nat) : Int) = _
    rw [Int.toNat_of_nonneg this.1]
  refine ⟨A, len, cap, zs.map Int.toNat, rfl, hl, hm, by simpa using hz, by rw [e]; exact hr, fun c hc => ?_, slice_lt Try.underlying25 hv⟩
  obtain ⟨n, hn, rfl⟩ := List.mem_map.1 hc
  have := bounds_u8 (hw n hn)
  omega
end Go.Proofs.Ytaenclbbiodhfaa
