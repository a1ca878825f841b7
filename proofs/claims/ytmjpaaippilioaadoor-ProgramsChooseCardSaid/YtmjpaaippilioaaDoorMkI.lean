import Derived.Test.YtmjpaaippilioaaDoorMkH
namespace Go.Proofs.YtmjpaaippilioaaDoor
open Go.RowKit

theorem lives_grown {W : World} (hm : Mk W) (F : Grown W) : Calls Tryd.prog 20 #[] F.1 fun e w' => e = .returned (.bool true) ∧ Frm F.1 w' fun _ => False := lives_any F.1 (hm.new_ F.2)
set_option maxRecDepth 100000 in
set_option maxHeartbeats 1000000 in
theorem rw_walk (u : Nat) (hu : (u : Int) ≤ 18446744073709551615) (w : World) (hm : Mk w) : Calls Tryd.prog 6 #[.int .u64 u] w fun e w' => e = .returned (.bool true) ∧ Frm w w' fun _ => False := by
  have HM := Lib.hid hm
  have H1 := Lib.hid (fun V => readers_any u hu V)
  have H2 := Lib.hid (fun V => rreaders_any u hu V)
  have H3 := Lib.hid (fun V => may_any u hu V)
  have H4 := Lib.hid (fun V => rmay_any u hu V)
  clear hm
  go_enter Tryd.func6, Tryd.ntmps6
  go_wp2_with (first
    | (go_at_call 27; refine (H1.out _).mono ?_; rintro e w' ⟨rfl, rfl⟩)
    | (go_at_call 28; refine (H2.out _).mono ?_; rintro e w' ⟨rfl, rfl⟩)
    | (go_at_call 29; refine (H3.out _).mono ?_; rintro e w' ⟨rfl, rfl⟩)
    | (go_at_call 30; refine (H4.out _).mono ?_; rintro e w' ⟨rfl, rfl⟩)
    | (go_at_call 20; refine (lives_any _ HM.out).mono ?_; rintro e w' ⟨rfl, hf⟩))
  go_ret
  exact ⟨rfl, hf⟩
set_option maxRecDepth 100000 in
set_option maxHeartbeats 1000000 in
theorem text_walk (u : Nat) (hu : (u : Int) ≤ 18446744073709551615) (w : World) (hm : Mk w) : Calls Tryd.prog 4 #[.int .u64 u] w fun e w' => e = .returned (.bool true) ∧ Frm w w' fun _ => False := by
  have HM := Lib.hid hm
  have F := Lib.hid (Frm.refl w fun _ => False)
  obtain ⟨s1, hs1⟩ : ∃ s, textB (sel (bt u) mutexN 2 ++ restL u 2) = s := ⟨_, rfl⟩
  obtain ⟨s2, hs2⟩ : ∃ s, textB (sel (bt u) rwN 4 ++ readL u) = s := ⟨_, rfl⟩
  obtain ⟨s3, hs3⟩ : ∃ s, textB (sel (bt u) onceN 4 ++ restL u 4) = s := ⟨_, rfl⟩
  have h1 := fun V hV => mutex_any u V hu hV
  have h2 := fun V => rmutex_any u V hu
  have h3 := fun V hV => rw_any u V hu hV
  have h4 := fun V => rrw_any u V hu
  have h5 := fun V hV => once_any u V hu hV
  have h6 := fun V => ronce_any u V hu
  simp only [hs1, hs2, hs3] at h1 h2 h3 h4 h5 h6
  have H1 := Lib.hid h1
  have H2 := Lib.hid h2
  have H3 := Lib.hid h3
  have H4 := Lib.hid h4
  have H5 := Lib.hid h5
  have H6 := Lib.hid h6
  clear hm h1 h2 h3 h4 h5 h6 hs1 hs2 hs3
  go_enter Tryd.func4, Tryd.ntmps4
  go_wp2_with (first
    | (go_at_call 21; refine (H1.out _ (HM.out.new_ F.out)).mono ?_; rintro e w1 ⟨rfl, hf⟩; replace F := Lib.hid (F.out.then_ hf); clear hf)
    | (go_at_call 22; refine (H2.out _).mono ?_; rintro e w2 ⟨rfl, hf⟩; replace F := Lib.hid (F.out.then_ hf); clear hf)
    | (go_at_call 23; refine (H3.out _ (HM.out.new_ F.out)).mono ?_; rintro e w3 ⟨rfl, hf⟩; replace F := Lib.hid (F.out.then_ hf); clear hf)
    | (go_at_call 24; refine (H4.out _).mono ?_; rintro e w4 ⟨rfl, hf⟩; replace F := Lib.hid (F.out.then_ hf); clear hf)
    | (go_at_call 25; refine (H5.out _ (HM.out.new_ F.out)).mono ?_; rintro e w5 ⟨rfl, hf⟩; replace F := Lib.hid (F.out.then_ hf); clear hf)
    | (go_at_call 26; refine (H6.out _).mono ?_; rintro e w6 ⟨rfl, hf⟩; replace F := Lib.hid (F.out.then_ hf); clear hf)
    | (go_at_call 20; refine (lives_any _ (HM.out.new_ F.out)).mono ?_; rintro e w7 ⟨rfl, hf⟩; replace F := Lib.hid (F.out.then_ hf); clear hf))
  go_ret
  exact ⟨rfl, F.out⟩
set_option maxRecDepth 100000 in
set_option maxHeartbeats 1000000 in
theorem word_walk (l q : Bool) (h : Int) (u : Nat) (hu : (u : Int) ≤ 18446744073709551615) (w : World) (hm : Mk w) : Calls Tryd.prog 3 #[.agg #[.bool l, .bool q, .int .i64 h], .int .u64 u] w fun e w' => e = .returned (.bool true) ∧ Frm w w' fun _ => False := by
  obtain ⟨W, hW⟩ : ∃ W, W = w.alloc (.cells #[.bool l, .bool q, .int .i64 h] 23) := ⟨_, rfl⟩
  have hF : Frm w W fun _ => False := by rw [hW]; exact (Frm.refl _ _).alloc _
  have c0 : W.cell? ⟨w.heap.size, 0, none⟩ = some (.bool l) := by rw [hW, World.cell?_alloc_new]; rfl
  have c1 : W.cell? ⟨w.heap.size, 1, none⟩ = some (.bool q) := by rw [hW, World.cell?_alloc_new]; rfl
  have c2 : W.cell? ⟨w.heap.size, 2, none⟩ = some (.int .i64 h) := by rw [hW, World.cell?_alloc_new]; rfl
  replace c0 := Grown.cell c0
  replace c1 := Grown.cell c1
  replace c2 := Grown.cell c2
  have HM := Lib.hid (hm.new_ hF)
  have HF := Lib.hid hF
  have e1 := eql27
  have e2 := eqg27
  have HA1 := Lib.hid (fun V => as_any u hu V)
  have HA2 := Lib.hid (fun V => ras_any u hu V)
  have HW := Lib.hid hW
  clear hm hF hW
  go_enter Tryd.func3, Tryd.ntmps3
  go_wp2_with fail
  rw [← HW.out]
  refine wp_region_grown W (Frm.refl _ _) (by kernel_rfl) (by kernel_rfl) ?_
  repeat (go_big_quiet_step (first
    | (go_at_call 15; exact Calls.grown_of (put_any _ _ _ _))
    | (go_at_call 16; exact Calls.grown_of (rput_any _ _ _ _))
    | (go_at_call 17; exact Calls.grown_of (other_any _ _ _ _))
    | (go_at_call 18; exact Calls.grown_of (HA1.out _))
    | (go_at_call 19; exact Calls.grown_of (HA2.out _))
    | (go_at_call 20; exact Calls.grown_of (lives_grown HM.out _))))
  refine wpQuiet_nil ?_
  intro wq hq
  have HQ := Lib.hid (HF.out.then_ hq)
  clear hq c0 c1 c2
  go_wp2_with fail
  go_ret
  exact ⟨rfl, HQ.out⟩
end Go.Proofs.YtmjpaaippilioaaDoor
