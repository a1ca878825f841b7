import Derived.Test.YtaenclbbiodhfaaRows
import Derived.OpenShut
import Derived.ProofKit
namespace Go.Proofs.Ytaenclbbiodhfaa
open Go.ChangeShapes Go.WideShapes Go.ChangeAt Go.RowKit
set_option maxRecDepth 100000 in
/-- An argument that is an address. -/
theorem open_addr {H : Type} {enc : TypeId × Value → H} {W : World} {base : Nat} {v : Value} {d : DataW H} {p : List MemPlace} {spare : Nat → Bool} {held : Bool}
    (hv : Value.okWide Try.prog W .any base 24 v) (h : DataW.Trod enc Try.prog W 0 spare held 24 v d p) :
    ∃ n : Nat, v = .int .u32 n ∧ d = .lit (.int .u32 n) ∧ p = [] ∧ (n : Int) ≤ 4294967295 ∧ (Lit.int .u32 (n : Int)).wf = true := by
  obtain ⟨b, rfl, rfl, rfl, wb⟩ := open_int Try.underlying24 hv h
  have := bounds_u32 wb
  obtain ⟨n, rfl⟩ := Int.eq_ofNat_of_zero_le this.1
  exact ⟨n, rfl, rfl, rfl, this.2, wb⟩
set_option maxRecDepth 100000 in
/-- An argument of 16 bits. -/
theorem open_u16 {H : Type} {enc : TypeId × Value → H} {W : World} {base : Nat} {v : Value} {d : DataW H} {p : List MemPlace} {spare : Nat → Bool} {held : Bool}
    (hv : Value.okWide Try.prog W .any base 95 v) (h : DataW.Trod enc Try.prog W 0 spare held 95 v d p) :
    ∃ n : Nat, v = .int .u16 n ∧ d = .lit (.int .u16 n) ∧ p = [] ∧ (n : Int) ≤ 65535 ∧ (Lit.int .u16 (n : Int)).wf = true := by
  obtain ⟨b, rfl, rfl, rfl, wb⟩ := open_int Try.underlying95 hv h
  have := bounds_u16 wb
  obtain ⟨n, rfl⟩ := Int.eq_ofNat_of_zero_le this.1
  exact ⟨n, rfl, rfl, rfl, this.2, wb⟩
end Go.Proofs.Ytaenclbbiodhfaa
