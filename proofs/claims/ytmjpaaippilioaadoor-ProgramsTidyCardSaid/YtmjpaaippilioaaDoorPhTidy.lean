import Derived.Test.YtmjpaaippilioaaDoorPjE
import Derived.Test.YtmjpaaippilioaaDoorPhD
import Derived.Test.YtmjpaaippilioaaDoorPiH
namespace Go.Proofs.YtmjpaaippilioaaDoor
open Go.RowKit

set_option maxRecDepth 100000 in
set_option maxHeartbeats 4000000 in
theorem tidy_law (A : Option Addr) (n c : Nat) (zs : List Nat) (w : World) (h : T2 w) (hr : Rd w w.heap.size 1 A n (bz zs)) (hz : ∀ z ∈ zs, z ≤ 255) :
    Calls Tryd.prog 8 #[.slice A n c] w fun e w' => e = .returned (.bool true) ∧ Frm w w' fun _ => False := by
  have H := Lib.hid h
  have HL := Lib.hid fun (v : World) (hv : Frm w v fun _ => False) => livesP_any v (H.out.new_ hv)
  by_cases hn : n ≤ 100
  rotate_left
  · have hn' : (100 : Int) < (n : Int) := by omega
    clear h hr hz
    go_enter Tryd.func8, Tryd.ntmps8
    go_wp2_with (go_at_call 31; refine (HL.out _ (Frm.refl _ _)).mono ?_; rintro e w1 ⟨rfl, hf⟩)
    go_ret
    exact ⟨rfl, hf⟩
  have hn' : (n : Int) ≤ 100 := by omega
  have M1 := Lib.hid (made_any A n c zs w h hr hz (by omega))
  clear h hr hz
  go_enter Tryd.func8, Tryd.ntmps8
  go_upto_region 4 with (go_at_call 32; refine M1.out.mono ?_; rintro e w1 ⟨Ax, nx, cx, xs, rfl, hSx, hKx, hnx, hf1⟩; have SX := Lib.hid hSx; have KX := Lib.hid hKx; have F1 := Lib.hid hf1; clear hSx hKx hf1)
  have HT := Lib.hid (tidyp_any Ax nx cx xs w1 (H.out.new_ F1.out).t1 SX.out.rd KX.out (by omega))
  have HO := Lib.hid fun (v : World) (hv : Frm w1 v fun _ => False) => others_any Ax nx cx xs v (SX.out.new_ hv).rd KX.out (by omega)
  obtain ⟨b, hb⟩ : ∃ b, tidyO xs = b := ⟨_, rfl⟩
  have HB := Lib.hid hb
  rw [hb] at HT
  have hbb2 : (b == b) = true := by cases b <;> rfl
  clear hb
  go_wp2_with (first
    | (go_at_call 33; refine HT.out.mono ?_; rintro e w2 ⟨rfl, hf⟩; have F2 := Lib.hid hf; clear hf)
    | (go_at_call 35; refine (HO.out _ F2.out).mono ?_; rintro e w3 ⟨Ay, cy, rfl, hSy, hf⟩; have SY := Lib.hid hSy; have F3 := Lib.hid (F2.out.then_ hf); have HR := Lib.hid (tidy_ref Ay nx cy xs w3 SY.out.rd KX.out (by omega)); rw [HB.out] at HR; clear hSy hf)
    | (go_at_call 34; refine HR.out.mono ?_; rintro e w4 ⟨rfl, hf⟩; have F4 := Lib.hid (F1.out.then_ (F3.out.then_ hf)); clear hf)
    | (go_at_call 31; refine (HL.out _ F4.out).mono ?_; rintro e w5 ⟨rfl, hf⟩))
  go_ret
  exact ⟨rfl, F4.out.then_ hf⟩
end Go.Proofs.YtmjpaaippilioaaDoor
