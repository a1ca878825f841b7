import Derived.Test.YtaenclbbiodhfaaCkT
namespace Go.Proofs.Ytaenclbbiodhfaa.Void
open Go.RowKit Go.Proofs.Ytaenclbbiodhfaa

set_option maxRecDepth 100000 in
set_option maxHeartbeats 4000000 in
theorem walk (kd : Int) (n : Nat) (on : Bool) (at_ : Nat) (X : Option Addr) (m cx : Nat) (l : List Nat) (hn : U n) (w : World) (hr : Rd w w.heap.size 1 X m (us l)) (hc : m ≤ cx) (hu : ∀ d ∈ l, U d) :
    Calls Try.prog 10 #[actV kd n on at_ X m cx] w fun e w' => e = .returned (.bool true) ∧ Frm w w' fun _ => False := by
  have e1 := neq73
  have e2 := eqg73
  have HR := Lib.hid hr
  have HU := Lib.hid hu
  clear hr hu
  go_enter Try.func10, Try.ntmps10
  go_upto_region 2 with fail
  refine at_world ?_
  intro W hW
  have hf : Frm w W fun _ => False := by rw [hW]; exact (Frm.refl _ _).alloc _
  have b0 : W.cell? ⟨w.heap.size, 0, none⟩ = some (.int .u8 kd) := by rw [hW, World.cell?_alloc_new]; rfl
  have b1 : W.cell? ⟨w.heap.size, 1, none⟩ = some (.int .u64 n) := by rw [hW, World.cell?_alloc_new]; rfl
  have b2 : W.cell? ⟨w.heap.size, 2, none⟩ = some (.bool on) := by rw [hW, World.cell?_alloc_new]; rfl
  have b3 : W.cell? ⟨w.heap.size, 3, none⟩ = some (.int .u64 at_) := by rw [hW, World.cell?_alloc_new]; rfl
  have b4 : W.cell? ⟨w.heap.size, 4, none⟩ = some (.slice X m cx) := by rw [hW, World.cell?_alloc_new]; rfl
  have F := Lib.hid hf
  clear hf hW
  go_wp2_with (first
    | (go_at_call 37; refine (tick_nil _ _).mono ?_; rintro e w' ⟨rfl, rfl⟩)
    | (go_at_call 42; refine (more_nil _ _ _ _).mono ?_; rintro e w' ⟨rfl, rfl⟩)
    | (go_at_call 39; refine (now_nil _).mono ?_; rintro e w' ⟨rfl, rfl⟩)
    | (go_at_call 38; refine (after_nil _ _).mono ?_; rintro e w1 ⟨rfl, hf⟩; have c2 := hf.cell b2 id; have c3 := hf.cell b3 id; have c1 := hf.cell b1 id; have c4 := hf.cell b4 id; have a0 := Lib.hid (hf.cell b0 id); have F1 := Lib.hid (F.out.then_ hf); clear hf)
    | (go_at_call 40; refine (come_nil _ _ _).mono ?_; rintro e w2 ⟨rfl, hf⟩; have d2 := hf.cell c2 id; have d3 := hf.cell c3 id; have d1 := hf.cell c1 id; have d4 := hf.cell c4 id; have d0 := hf.cell (a0.out) id; have F2 := Lib.hid (F1.out.then_ hf); clear hf)
    | (go_at_call 43; refine (draw_nil _).mono ?_; rintro e w' ⟨rfl, rfl⟩)
    | (go_at_call 41; refine (left_nil _).mono ?_; rintro e w' ⟨rfl, rfl⟩))
  have O : Hid (Own w (w2.alloc (.cells #[.int .u64 0, .slice none 0 0, .int .u64 0] 89)) w2.heap.size none 0 0 0 []) := ⟨clk_new w2 89 0 U.zero, F2.out.then_ ((Frm.refl _ _).alloc _), F2.out.size⟩
  refine (rnew_any 0 [] _ _ U.zero _ (Rd.nil _ _ _ _) (fit0 (by decide)) (fun _ h => by cases h) (Nat.le_refl _)).mono ?_
  rintro e w3 ⟨v, rfl, hnew⟩
  have f3 : Frm w2 w3 fun _ => False := by obtain ⟨_, _, _, _, _, h, _, _⟩ := hnew; exact ((Frm.refl _ _).alloc _).then_ h
  obtain ⟨c, A', cap', rfl, T, hcc, _⟩ := Two.mk_ O.out hnew
  have HCC := Lib.hid hcc
  replace T := Lib.hid T
  have x0 := f3.cell d0 id
  have x1 := f3.cell d1 id
  have x2 := f3.cell d2 id
  have x3 := f3.cell d3 id
  have x4 := f3.cell d4 id
  have hsz : w.heap.size < w2.heap.size := World.block_lt_of_cell? w2 _ d1
  have HL := Lib.hid (Rd.cells HR.out).1
  have hpn : ¬ w.heap.size = w2.heap.size := by omega
  clear hcc hnew O a0 b0 b1 b2 b3 b4 c1 c2 c3 c4 d0 d1 d2 d3 d4 f3
  by_cases h300 : (300 : Int) < (m : Int)
  · go_wp2_with (go_at_call 35; refine (lives_any _).mono ?_; rintro e w4 ⟨rfl, hf⟩; have F4 := Lib.hid (T.out.frm.then_ hf); clear hf)
    go_ret
    exact ⟨rfl, F4.out⟩
  · have h300' : (m : Int) ≤ 300 := by omega
    have FT : Fit 0 m := ⟨by omega⟩
    clear h300
    go_wp2_with fail
    refine (same_any _ _ _ _ _ _ _ _ _ kd n on at_ X m cx hn _ T.out.p.clk T.out.r.clk).mono ?_
    rintro e w4 ⟨rfl, hf⟩
    replace x0 := hf.cell x0 id
    replace x1 := hf.cell x1 id
    replace x2 := hf.cell x2 id
    replace x3 := hf.cell x3 id
    replace x4 := hf.cell x4 id
    have T4 := Lib.hid (T.out.new_ hf)
    clear hf T
    go_wp2_with fail
    refine (draw_any _ _ _ 0 _ _ _ T4.out.p.clk).mono ?_
    rw [show drawOf 0 [] = 0 from rfl]
    rintro e w5 ⟨rfl, hd⟩
    have hfd : Frm w4 w5 (fun k => k = w2.heap.size) := by obtain ⟨_, _, _, hf, _⟩ := hd; exact hf
    replace x0 := hfd.cell x0 (hpn)
    replace x1 := hfd.cell x1 (hpn)
    replace x2 := hfd.cell x2 (hpn)
    replace x3 := hfd.cell x3 (hpn)
    replace x4 := hfd.cell x4 (hpn)
    obtain ⟨A5, c5, T5⟩ := T4.out.drawP hd
    replace T5 : Hid (Two w w5 w2.heap.size c A5 c5 A' cap' 0 0 0 [] []) := T5
    clear hd hfd T4
    go_wp2_with fail
    refine (tick_any _ _ _ _ _ _ n hn _ T5.out.p.clk).mono ?_
    rintro e w6 ⟨rfl, hc6, hf⟩
    replace x0 := hf.cell x0 (hpn)
    replace x1 := hf.cell x1 (hpn)
    replace x2 := hf.cell x2 (hpn)
    replace x3 := hf.cell x3 (hpn)
    replace x4 := hf.cell x4 (hpn)
    have T6 := Lib.hid (T5.out.tickP hc6 hf)
    clear hc6 hf T5
    go_wp2_with fail
    refine (rtick_any _ _ _ _ _ _ n hn _ T6.out.r.clk).mono ?_
    rintro e w7 ⟨rfl, hc7, hf⟩
    have hcn : ¬ w.heap.size = c := by have := HCC.out; simp at this; omega
    replace x0 := hf.cell x0 (hcn)
    replace x1 := hf.cell x1 (hcn)
    replace x2 := hf.cell x2 (hcn)
    replace x3 := hf.cell x3 (hcn)
    replace x4 := hf.cell x4 (hcn)
    have T7 := Lib.hid (T6.out.tickR hc7 hf)
    clear hc7 hf T6
    go_wp2_with fail
    refine (more_len _ _ _ _ _ [] l 0 m rfl HL.out.symm _ _ _ T7.out.p.clk (HR.out.new_ T7.out.frm) FT HU.out).mono ?_
    rintro e w8 ⟨rfl, hd⟩
    have hfd : Frm w7 w8 (fun k => k = w2.heap.size) := by obtain ⟨_, _, _, hf, _⟩ := hd; exact hf
    replace x0 := hfd.cell x0 (hpn)
    replace x1 := hfd.cell x1 (hpn)
    replace x2 := hfd.cell x2 (hpn)
    replace x3 := hfd.cell x3 (hpn)
    replace x4 := hfd.cell x4 (hpn)
    obtain ⟨A8, c8, T8, _⟩ := T7.out.moreP hd
    replace T8 : Hid (Two w w8 w2.heap.size c A8 c8 A' cap' _ _ 0 l []) := T8
    clear hd hfd T7
    go_wp2_with fail
    refine (rmore_len _ _ _ _ _ [] l 0 m rfl HL.out.symm _ _ _ T8.out.r.clk (HR.out.new_ T8.out.frm) FT HU.out hc).mono ?_
    rintro e w9 ⟨rfl, hd⟩
    have hfd : Frm w8 w9 (fun k => k = c) := by obtain ⟨_, _, _, hf, _⟩ := hd; exact hf
    replace x0 := hfd.cell x0 (hcn)
    replace x1 := hfd.cell x1 (hcn)
    replace x2 := hfd.cell x2 (hcn)
    replace x3 := hfd.cell x3 (hcn)
    replace x4 := hfd.cell x4 (hcn)
    obtain ⟨A9, c9, T9, _⟩ := T8.out.moreR hd
    replace T9 : Hid (Two w w9 w2.heap.size c A8 c8 A9 c9 _ _ 0 l l) := T9
    clear hd hfd T8
    go_wp2_with fail
    refine (same_any _ _ _ _ _ _ _ _ _ kd n on at_ X m cx hn _ T9.out.p.clk T9.out.r.clk).mono ?_
    rintro e w10 ⟨rfl, hf⟩
    have T10 := Lib.hid (T9.out.new_ hf)
    obtain ⟨dv, hdv⟩ : ∃ dv, drawOf 0 l = dv := ⟨_, rfl⟩
    have HDV := Lib.hid hdv
    clear hf T9 hdv x0 x1 x2 x3 x4
    go_wp2_with fail
    refine (draw_any _ _ _ 0 _ _ _ T10.out.p.clk).mono ?_
    rw [HDV.out]
    rintro e w11 ⟨rfl, hd⟩
    obtain ⟨A11, c11, T11⟩ := T10.out.drawP hd
    replace T11 := Lib.hid T11
    clear hd T10
    go_wp2_with fail
    refine (rdraw_any _ _ _ 0 _ _ _ T11.out.r.clk).mono ?_
    rw [HDV.out]
    rintro e w12 ⟨rfl, hd⟩
    obtain ⟨A12, c12, T12⟩ := T11.out.drawR hd
    replace T12 := Lib.hid T12
    clear hd T11
    go_wp2_with fail
    refine (lives_any _).mono ?_
    rintro e w13 ⟨rfl, hf⟩
    have F13 := Lib.hid (T12.out.frm.then_ hf)
    clear hf T12
    go_wp2_with fail
    go_ret
    exact ⟨rfl, F13.out⟩
end Go.Proofs.Ytaenclbbiodhfaa.Void
