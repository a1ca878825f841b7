import Derived.Test.YtaenclbbiodhfaaCkF
import Derived.LoopTactic
import Derived.Deep.CutRange
namespace Go.Proofs.Ytaenclbbiodhfaa
open Go.RowKit

theorem new_len (most : Nat) (l : List Nat) (m : Nat) (hm' : l.length = m) (X : Option Addr) (c : Nat) (hm : U most) (w : World) (hr : Rd w w.heap.size 1 X m (us l)) (hl : Fit 0 m) (hu : ∀ d ∈ l, U d) :
    Calls Try.prog 36 #[.slice X m c, .int .u64 most] w fun e w' => ∃ v, e = .returned v ∧ Newed most l w w' v := by subst hm'; exact new_any most l X c hm w hr hl hu
theorem rnew_len (most : Nat) (l : List Nat) (m : Nat) (hm' : l.length = m) (X : Option Addr) (c : Nat) (hm : U most) (w : World) (hr : Rd w w.heap.size 1 X m (us l)) (hl : Fit 0 m) (hu : ∀ d ∈ l, U d) (hc : m ≤ c) :
    Calls Try.prog 44 #[.slice X m c, .int .u64 most] w fun e w' => ∃ v, e = .returned v ∧ Newed most l w w' v := by subst hm'; exact rnew_any most l X c hm w hr hl hu hc
theorem more_len (b cap now most : Nat) (A : Option Addr) (ds l : List Nat) (n m : Nat) (hn' : ds.length = n) (hm' : l.length = m) (X : Option Addr) (c : Nat) (w : World) (h : Clk w b A cap now most ds) (hr : Rd w w.heap.size 1 X m (us l)) (hl : Fit n m) (hu : ∀ d ∈ l, U d) :
    Calls Try.prog 42 #[.pointer (some ⟨b, 0, none⟩), .slice X m c] w fun e w' => e = .returned (.tuple #[]) ∧ Mored b now most (ds ++ l) w w' := by subst hm' hn'; exact more_any b cap now most A ds l X c w h hr hl hu
theorem rmore_len (b cap now most : Nat) (A : Option Addr) (ds l : List Nat) (n m : Nat) (hn' : ds.length = n) (hm' : l.length = m) (X : Option Addr) (c : Nat) (w : World) (h : Clk w b A cap now most ds) (hr : Rd w w.heap.size 1 X m (us l)) (hl : Fit n m) (hu : ∀ d ∈ l, U d) (hc : m ≤ c) :
    Calls Try.prog 47 #[.pointer (some ⟨b, 0, none⟩), .slice X m c] w fun e w' => e = .returned (.tuple #[]) ∧ Mored b now most (ds ++ l) w w' := by subst hm' hn'; exact rmore_any b cap now most A ds l X c w h hr hl hu hc
theorem left_len (b cap now most : Nat) (A : Option Addr) (ds : List Nat) (n : Nat) (hn : ds.length = n) (w : World) (h : Clk w b A cap now most ds) :
    Calls Try.prog 41 #[.pointer (some ⟨b, 0, none⟩)] w fun e w' => e = .returned (.int .i64 n) ∧ w = w' := by subst hn; exact left_any b cap now most A ds w h
theorem Rd.cells {w : World} {B m : Nat} {A : Option Addr} {l : List Nat} (h : Rd w B 1 A m (us l)) : m = l.length ∧ (0 < m → ∃ g off, A = some ⟨g, off, none⟩ ∧ ∀ i (hi : i < l.length), w.cell? ⟨g, off + i, none⟩ = some (.int .u64 (l[i] : Nat))) := by
  have hm : m = l.length := by have := h.1; rw [us_len] at this; omega
  refine ⟨hm, fun hp => ?_⟩
  obtain ⟨g, off, e, _, hc⟩ := h.2 (by rw [us_len]; omega)
  exact ⟨g, off, e, fun i hi => hc i _ (by simp [us, hi])⟩
theorem us_take (l : List Nat) (n : Nat) : us (l.take n) = (us l).take n := by simp [us, List.map_take]
theorem us_drop (l : List Nat) (n : Nat) : us (l.drop n) = (us l).drop n := by simp [us, List.map_drop]
end Go.Proofs.Ytaenclbbiodhfaa
