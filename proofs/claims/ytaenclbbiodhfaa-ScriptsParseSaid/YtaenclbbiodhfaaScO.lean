import Derived.Test.YtaenclbbiodhfaaScG
import Derived.Test.YtaenclbbiodhfaaOpn
namespace Go.Proofs.Ytaenclbbiodhfaa
open Go.ChangeShapes Go.WideShapes Go.ChangeAt Go.RowKit Go.Deep

theorem slice_lt' {P : Program} {W : World} {r : Reach} {base : Nat} {t e : TypeId} {A : Option Addr} {n c : Nat} (ht : P.underlying t = some (.slice e)) (hv : Value.okWide P W r base t (.slice A n c)) : ∀ j, blk A j → j < W.heap.size := by
  rintro j ⟨a, rfl, rfl⟩
  simp only [Value.okWide, ht, Cell.okWide, Cell.ok] at hv
  obtain ⟨_, _, _, _, row, cells, hs, _⟩ := hv
  rcases Nat.lt_or_ge a.block W.heap.size with h | h
  · exact h
  · unfold World.shape? at hs
    rw [Array.getElem?_eq_none h] at hs
    simp at hs
set_option maxRecDepth 100000 in
/-- An argument that is a slice of bytes. -/
theorem open_by {H : Type} {enc : TypeId × Value → H} {W : World} {base : Nat} {v : Value} {d : DataW H} {p : List MemPlace} {spare : Nat → Bool} {held : Bool}
    (hv : Value.okWide Try.prog W .any base 25 v) (h : DataW.Trod enc Try.prog W 0 spare held 25 v d p) :
    ∃ (A : Option Addr) (len cap : Nat) (l : List Nat), v = .slice A len cap ∧ Rd W W.heap.size 1 A len (by_ l) ∧ (∀ c ∈ l, c ≤ 255) ∧ ∀ j, blk A j → j < W.heap.size := by
  obtain ⟨A, len, cap, zs, rfl, hl, hm, hz, hr, hw⟩ := open_nums Try.underlying25 Try.underlying5 (by kernel_rfl) hv h
  have e : by_ (zs.map Int.toNat) = zs.map (Value.int .u8) := by
    unfold by_
    rw [List.map_map]
    refine List.map_congr_left fun n hn => ?_
    have := bounds_u8 (hw n hn)
    show Value.int .u8 ((n.toNat : Nat) : Int) = _
    rw [Int.toNat_of_nonneg this.1]
  refine ⟨A, len, cap, zs.map Int.toNat, rfl, by rw [e]; exact hr, fun c hc => ?_, slice_lt' Try.underlying25 hv⟩
  obtain ⟨n, hn, rfl⟩ := List.mem_map.1 hc
  have := bounds_u8 (hw n hn)
  omega
set_option maxRecDepth 100000 in
theorem open_u32 {H : Type} {enc : TypeId × Value → H} {W : World} {base : Nat} {v : Value} {d : DataW H} {p : List MemPlace} {spare : Nat → Bool} {held : Bool}
    (hv : Value.okWide Try.prog W .any base 23 v) (h : DataW.Trod enc Try.prog W 0 spare held 23 v d p) :
    ∃ n : Nat, v = .int .u32 n ∧ d = .lit (.int .u32 n) ∧ p = [] ∧ (n : Int) ≤ 4294967295 ∧ (Lit.int .u32 (n : Int)).wf = true := by
  obtain ⟨b, rfl, rfl, rfl, wb⟩ := open_int Try.underlying23 hv h
  have := bounds_u32 wb
  obtain ⟨n, rfl⟩ := Int.eq_ofNat_of_zero_le this.1
  exact ⟨n, rfl, rfl, rfl, this.2, wb⟩
end Go.Proofs.Ytaenclbbiodhfaa
