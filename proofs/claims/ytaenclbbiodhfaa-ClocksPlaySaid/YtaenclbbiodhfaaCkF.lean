import Derived.Test.YtaenclbbiodhfaaCkE
namespace Go.Proofs.Ytaenclbbiodhfaa
open Go.RowKit

/-- A clock of the call's own: nothing of w's has turned. -/
structure Own (w wr : World) (b : Nat) (A : Option Addr) (cap now most : Nat) (ds : List Nat) : Prop where
  clk : Clk wr b A cap now most ds
  frm : Frm w wr fun _ => False
  hb : w.heap.size ≤ b
section
variable {w wr w' : World} {b cap now most : Nat} {A : Option Addr} {ds : List Nat} {v : Value}
theorem Own.of_new (h : Newed most ds w wr v) : ∃ b A cap, v = .pointer (some ⟨b, 0, none⟩) ∧ Own w wr b A cap 0 most ds := by
  obtain ⟨b, A, cap, rfl, hc, hf, hb, _⟩ := h
  exact ⟨b, A, cap, rfl, hc, hf, hb⟩
theorem Own.new_ (h : Own w wr b A cap now most ds) (hf : Frm wr w' fun _ => False) : Own w w' b A cap now most ds := ⟨h.clk.new_ hf, h.frm.then_ hf, h.hb⟩
theorem Own.tick {n : Nat} (h : Own w wr b A cap now most ds) (hc : Clk w' b A cap n most ds) (hf : Frm wr w' fun k => k = b) : Own w w' b A cap n most ds :=
  ⟨hc, h.frm.fresh hf (fun j hj => by subst hj; exact h.hb), h.hb⟩
theorem Own.drawn {ds' : List Nat} (h : Own w wr b A cap now most ds) (hd : Drawn b now most A ds' wr w') : ∃ A' cap', Own w w' b A' cap' now most ds' := by
  obtain ⟨A', cap', hc, hf, _⟩ := hd
  exact ⟨A', cap', hc, h.frm.fresh hf (fun j hj => by subst hj; exact h.hb), h.hb⟩
theorem Own.mored {ds' : List Nat} (h : Own w wr b A cap now most ds) (hd : Mored b now most ds' wr w') : ∃ A' cap', Own w w' b A' cap' now most ds' := by
  obtain ⟨A', cap', hc, hf, _⟩ := hd
  exact ⟨A', cap', hc, h.frm.fresh hf (fun j hj => by subst hj; exact h.hb), h.hb⟩
end
theorem u_of {n : Nat} (h : n < 1000) : U n := ⟨by omega⟩
theorem us_lit : us [7, 12] = [.int .u64 7, .int .u64 12] := rfl

set_option maxRecDepth 100000 in
set_option maxHeartbeats 1000000 in
theorem lives_any (w : World) : Calls Try.prog 35 #[] w fun e w' => e = .returned (.bool true) ∧ Frm w w' fun _ => False := by
  have u9 : U 9 := u_of (by decide)
  have u5 : U 5 := u_of (by decide)
  have u3 : U 3 := u_of (by decide)
  have u2 : U 2 := u_of (by decide)
  have u1 : U 1 := u_of (by decide)
  have F0 := Lib.hid ((Frm.refl w (fun _ => False)).alloc (.cells #[.int .u64 7, .int .u64 12] 33))
  have R0 := Lib.hid (show Rd (w.alloc (.cells #[.int .u64 7, .int .u64 12] 33)) (w.alloc (.cells #[.int .u64 7, .int .u64 12] 33)).heap.size 1 (some ⟨w.heap.size, 0, none⟩) [7, 12].length (us [7, 12]) from Rd.fresh w 33 #[.int .u64 7, .int .u64 12] rfl)
  have hu : ∀ d ∈ [7, 12], U d := by intro d hd; simp at hd; rcases hd with rfl | rfl <;> exact u_of (by decide)
  have HU := Lib.hid hu
  clear hu
  have e1 := eql73
  have e2 := eqg73
  go_enter Try.func35, Try.ntmps35
  go_wp2_with fail
  refine (new_any 9 [7, 12] _ _ u9 _ R0.out (fit0 (by decide)) HU.out).mono ?_
  rintro e w1 ⟨v, rfl, hnew⟩
  obtain ⟨b, A, cap, rfl, O⟩ := Own.of_new hnew
  replace O : Own w w1 b A cap 0 9 [7, 12] := ⟨O.clk, F0.out.then_ O.frm, Nat.le_trans F0.out.size O.hb⟩
  replace O := Lib.hid O
  clear hnew F0 R0 HU
  go_wp2_with fail
  refine (draw_any b _ _ 9 _ _ w1 O.out.clk).mono ?_
  rintro e w2 ⟨rfl, hd⟩
  obtain ⟨A2, cap2, O2⟩ := O.out.drawn hd
  replace O2 : Hid (Own w w2 b A2 cap2 0 9 [12]) := O2
  rw [show drawOf 9 [7, 12] = 7 from by decide]
  clear hd O
  go_wp2_with fail
  refine (draw_any b _ _ 9 _ _ w2 O2.out.clk).mono ?_
  rintro e w3 ⟨rfl, hd⟩
  obtain ⟨A3, cap3, O3⟩ := O2.out.drawn hd
  replace O3 : Hid (Own w w3 b A3 cap3 0 9 []) := O3
  rw [show drawOf 9 [12] = 2 from by decide]
  clear hd O2
  go_wp2_with fail
  refine (draw_any b _ _ 9 _ _ w3 O3.out.clk).mono ?_
  rintro e w4 ⟨rfl, hd⟩
  obtain ⟨A4, cap4, O4⟩ := O3.out.drawn hd
  replace O4 : Hid (Own w w4 b A4 cap4 0 9 []) := O4
  rw [show drawOf 9 [] = 0 from by decide]
  clear hd O3
  go_wp2_with fail
  refine (tick_any b _ _ _ _ _ 5 u5 w4 O4.out.clk).mono ?_
  rintro e w5 ⟨rfl, hc, hf⟩
  have O5 : Hid (Own w w5 b A4 cap4 5 9 []) := O4.out.tick hc hf
  clear hc hf O4
  go_wp2_with fail
  refine (after_any b _ _ _ _ _ 3 u3 w5 O5.out.clk).mono ?_
  rw [show plus 5 3 = 8 from by decide]
  rintro e w6 ⟨rfl, hf⟩
  have O6 : Hid (Own w w6 b A4 cap4 5 9 []) := O5.out.new_ hf
  clear hf O5
  go_wp2_with fail
  have hne : ¬ w6.heap.size = b := by have := O6.out.clk.lt; omega
  refine (tick_any b _ _ _ _ _ 2 u2 _ (O6.out.new_ ((Frm.refl _ _).alloc _)).clk).mono ?_
  rw [show plus 5 2 = 7 from by decide]
  rintro e w7 ⟨rfl, hc, hf⟩
  have a0 : w7.cell? ⟨w6.heap.size, 0, none⟩ = some (.bool true) := hf.cell (by rw [World.cell?_alloc_new]; rfl) hne
  have a1 : w7.cell? ⟨w6.heap.size, 1, none⟩ = some (.int .u64 8) := hf.cell (by rw [World.cell?_alloc_new]; rfl) hne
  have O7 : Hid (Own w w7 b A4 cap4 7 9 []) := (O6.out.new_ ((Frm.refl _ _).alloc _)).tick hc hf
  clear hc hf O6
  go_wp2_with fail
  refine (come_any b _ _ _ _ _ true 8 w7 O7.out.clk).mono ?_
  rw [show comeB 7 true 8 = false from by decide]
  rintro e w8 ⟨rfl, hf⟩
  have a80 := hf.cell a0 id
  have a81 := hf.cell a1 id
  have O8 : Hid (Own w w8 b A4 cap4 7 9 []) := O7.out.new_ hf
  clear hf O7 a0 a1
  go_wp2_with fail
  refine (tick_any b _ _ _ _ _ 1 u1 _ O8.out.clk).mono ?_
  rw [show plus 7 1 = 8 from by decide]
  rintro e w9 ⟨rfl, hc, hf⟩
  have a90 := hf.cell a80 hne
  have a91 := hf.cell a81 hne
  have O9 : Hid (Own w w9 b A4 cap4 8 9 []) := O8.out.tick hc hf
  clear hc hf O8 a80 a81
  go_wp2_with fail
  refine (come_any b _ _ _ _ _ true 8 w9 O9.out.clk).mono ?_
  rw [show comeB 8 true 8 = true from by decide]
  rintro e w10 ⟨rfl, hf⟩
  have O10 : Hid (Own w w10 b A4 cap4 8 9 []) := O9.out.new_ hf
  clear hf O9 a90 a91
  go_wp2_with fail
  refine (come_any b _ _ _ _ _ false 0 w10 O10.out.clk).mono ?_
  rw [show comeB 8 false 0 = false from by decide]
  rintro e w11 ⟨rfl, hf⟩
  have O11 : Hid (Own w w11 b A4 cap4 8 9 []) := O10.out.new_ hf
  clear hf O10
  go_wp2_with fail
  go_ret
  exact ⟨rfl, O11.out.frm⟩
end Go.Proofs.Ytaenclbbiodhfaa
