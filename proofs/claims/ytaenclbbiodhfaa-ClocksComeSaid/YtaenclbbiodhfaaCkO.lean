import Derived.Test.YtaenclbbiodhfaaCkB
import Derived.Test.YtaenclbbiodhfaaOpn
namespace Go.Proofs.Ytaenclbbiodhfaa
open Go.ChangeShapes Go.WideShapes Go.ChangeAt Go.RowKit

theorem cells33 : Try.prog.cellsOf 33 = 1 := by kernel_rfl
set_option maxRecDepth 100000 in
theorem us_of (zs : List Int) (h : ∀ n ∈ zs, (Lit.int .u64 n).wf = true) : us (zs.map Int.toNat) = zs.map (Value.int .u64) ∧ ∀ d ∈ zs.map Int.toNat, U d := by
  constructor
  · unfold us
    rw [List.map_map]
    refine List.map_congr_left fun n hn => ?_
    have := bounds_u64 (h n hn)
    show Value.int .u64 ((n.toNat : Nat) : Int) = _
    rw [Int.toNat_of_nonneg this.1]
  · intro d hd
    obtain ⟨n, hn, rfl⟩ := List.mem_map.1 hd
    have := bounds_u64 (h n hn)
    exact ⟨by omega⟩
set_option maxRecDepth 100000 in
/-- An argument that is a slice of uint64. -/
theorem open_u64s {H : Type} {enc : TypeId × Value → H} {W : World} {base : Nat} {v : Value} {d : DataW H} {p : List MemPlace} {spare : Nat → Bool} {held : Bool}
    (hv : Value.okWide Try.prog W .any base 28 v) (h : DataW.Trod enc Try.prog W 0 spare held 28 v d p) :
    ∃ (A : Option Addr) (len cap : Nat) (l : List Nat), v = .slice A len cap ∧ len ≤ cap ∧ cap ≤ maxLen ∧ l.length = len ∧ Rd W W.heap.size 1 A len (us l) ∧ ∀ d ∈ l, U d := by
  obtain ⟨A, len, cap, zs, rfl, hl, hm, hz, hr, hw⟩ := open_nums Try.underlying28 Try.underlying33 cells33 hv h
  obtain ⟨e, hu⟩ := us_of zs hw
  exact ⟨A, len, cap, zs.map Int.toNat, rfl, hl, hm, by simpa using hz, by rw [e]; exact hr, hu⟩
set_option maxRecDepth 100000 in
/-- An argument that is a uint64. -/
theorem open_u64 {H : Type} {enc : TypeId × Value → H} {W : World} {base : Nat} {v : Value} {d : DataW H} {p : List MemPlace} {spare : Nat → Bool} {held : Bool}
    (hv : Value.okWide Try.prog W .any base 33 v) (h : DataW.Trod enc Try.prog W 0 spare held 33 v d p) :
    ∃ n : Nat, v = .int .u64 n ∧ d = .lit (.int .u64 n) ∧ p = [] ∧ U n ∧ (Lit.int .u64 (n : Int)).wf = true := by
  obtain ⟨b, rfl, rfl, rfl, wb⟩ := open_int Try.underlying33 hv h
  have := bounds_u64 wb
  obtain ⟨n, rfl⟩ := Int.eq_ofNat_of_zero_le this.1
  exact ⟨n, rfl, rfl, rfl, ⟨by omega⟩, wb⟩
set_option maxRecDepth 100000 in
/-- An argument that is a uint8. -/
theorem open_u8 {H : Type} {enc : TypeId × Value → H} {W : World} {base : Nat} {v : Value} {d : DataW H} {p : List MemPlace} {spare : Nat → Bool} {held : Bool}
    (hv : Value.okWide Try.prog W .any base 5 v) (h : DataW.Trod enc Try.prog W 0 spare held 5 v d p) :
    ∃ n : Nat, v = .int .u8 n ∧ d = .lit (.int .u8 n) ∧ p = [] ∧ (n : Int) ≤ 255 ∧ (Lit.int .u8 (n : Int)).wf = true := by
  obtain ⟨b, rfl, rfl, rfl, wb⟩ := open_int Try.underlying5 hv h
  have := bounds_u8 wb
  obtain ⟨n, rfl⟩ := Int.eq_ofNat_of_zero_le this.1
  exact ⟨n, rfl, rfl, rfl, this.2, wb⟩
end Go.Proofs.Ytaenclbbiodhfaa
