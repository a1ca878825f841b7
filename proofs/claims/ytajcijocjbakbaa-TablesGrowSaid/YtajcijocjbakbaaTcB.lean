import Derived.Test.YtajcijocjbakbaaTcA
import Derived.Test.YtajcijocjbakbaaTbT
namespace Go.Proofs.Ytajcijocjbakbaa
open Go.ChangeShapes Go.WideShapes Go.ChangeAt Go.RowKit Go.Deep

set_option maxRecDepth 100000 in
/-- An argument that is a slice of bytes. -/
theorem open_bytes {H : Type} {enc : TypeId × Value → H} {W : World} {base : Nat} {v : Value} {d : DataW H} {p : List MemPlace} {spare : Nat → Bool} {held : Bool}
    (hv : Value.okWide Try.prog W .any base 23 v) (h : DataW.Trod enc Try.prog W 0 spare held 23 v d p) :
    ∃ (A : Option Addr) (len cap : Nat) (zs : List Int), v = .slice A len cap ∧ Rd W W.heap.size 1 A len (zs.map (Value.int .u8)) ∧ ∀ z ∈ zs, 0 ≤ z ∧ z ≤ 255 := by
  obtain ⟨A, len, cap, zs, rfl, _, _, _, hr, hw⟩ := open_nums Try.underlying23 Try.underlying5 cT5 hv h
  exact ⟨A, len, cap, zs, rfl, hr, fun z hz => bounds_u8 (hw z hz)⟩
theorem grow_all (A X : Option Addr) (n c m cx : Nat) (now : Int) (l : List En) (zs : List Int) (w : World) (hr : Rd w w.heap.size 3 A n (ens l)) (hok : ∀ x ∈ l, EnOk x) (hx : Rd w w.heap.size 1 X m (zs.map (Value.int .u8))) (hz : ∀ z ∈ zs, 0 ≤ z ∧ z ≤ 255) :
    Calls Try.prog 3 #[.slice A n c, .slice X m cx, .int .u64 now] w fun e w' => e = .returned (.bool true) ∧ Frm w w' fun _ => False := by
  by_cases hn : n ≤ 60
  · by_cases hm : m ≤ 10
    · exact grow_walk A X n c m cx now l zs w hr hok hn hx hz hm
    · exact grow_long2 A X n c m cx now w hn (by omega)
  · exact grow_long A X n c m cx now w (by omega)
end Go.Proofs.Ytajcijocjbakbaa
