import Derived.Test.YtmjpaaippilioaaDoorPiC
import Derived.Test.YtmjpaaippilioaaDoorPiE
namespace Go.Proofs.YtmjpaaippilioaaDoor
open Go.RowKit

/-! ### operations as the document has them -/
set_option maxRecDepth 100000 in
set_option maxHeartbeats 4000000 in
theorem others_any (A : Option Addr) (n c : Nat) (xs : List OpR) (w : World) (hr : Rd w w.heap.size 7 A n (opsV xs)) (hk : KOk xs) (hn : (n : Int) ≤ 1000) :
    Calls Tryd.prog 35 #[.slice A n c] w fun e w' => ∃ A' c', e = .returned (.slice A' n c') ∧ Sl w' w.heap.size 7 A' n c' (opsR xs) ∧ Frm w w' fun _ => False := by
  obtain ⟨i71, hi, hz0, hz1, hz2⟩ := info_parts info71
  obtain ⟨hxl, hxc⟩ := Rd.rows OpR.cs_len (by decide) hr
  have HXL := Lib.hid hxl
  have HXC := Lib.hid hxc
  have HK := Lib.hid hk
  clear hr hxl hxc hk
  go_enter Tryd.func35, Tryd.ntmps35
  go_wp2_with fail
  go_loopw [3, 4] (fun so i wr => ∃ (j : Nat) (Ao : Option Addr) (co : Nat), i = .int .i64 j ∧ j ≤ n ∧ so = .slice Ao j co ∧ Sl wr w.heap.size 7 Ao j co (opsR (xs.take j)) ∧ Frm w wr fun _ => False) (fun _ i _ => n - (intOf i).toNat)
  case atStart => exact ⟨0, none, 0, rfl, Nat.zero_le _, rfl, Sl.nil _ _ _, Frm.refl _ _⟩
  case round =>
    obtain ⟨j, Ao, co, rfl, hj, rfl, hS, hF⟩ := hrel
    have S := Lib.hid hS
    have F := Lib.hid hF
    have j0 : (0 : Int) ≤ (j : Int) := by omega
    have j1 : (j : Int) ≤ (n : Int) := by omega
    clear hS hF
    by_cases hlt : j < n
    · have j2 : (j : Int) < (n : Int) := by omega
      obtain ⟨g, off, rfl, -, hcx⟩ := HXC.out (by omega)
      have hjl : j < xs.length := by have := HXL.out; omega
      have hx := hcx j hjl
      have e : xs.take (j + 1) = xs.take j ++ [xs[j]] := List.take_succ_eq_append_getElem hjl
      obtain ⟨q0, q1⟩ := HK.out _ (List.getElem_mem hjl)
      obtain ⟨X, hX⟩ : ∃ X, xs[j] = X := ⟨_, rfl⟩
      rw [hX] at hx q0 q1 e
      have HE := Lib.hid e
      have HO := Lib.hid fun v => other_any X q0 q1 v
      obtain ⟨h63, hby⟩ : j + 1 ≤ maxLen ∧ (j + 1) * 48 ≤ 140737488355328 := by unfold maxLen; omega
      have HB := Lib.hid (show w.heap.size ≤ wr.heap.size from F.out.size)
      obtain ⟨xk, xa, xo, xt, xfl, xfa, xg⟩ := X
      have x0 : wr.cell? ⟨g, off + j * 7, none⟩ = some (.int .u8 xk) := F.out.cell (hx 0 _ rfl) id
      have x1 : wr.cell? ⟨g, off + j * 7 + 1, none⟩ = some (.int .i64 xa) := F.out.cell (hx 1 _ rfl) id
      have x2 : wr.cell? ⟨g, off + j * 7 + 2, none⟩ = some (.int .i64 xo) := F.out.cell (hx 2 _ rfl) id
      have x3 : wr.cell? ⟨g, off + j * 7 + 3, none⟩ = some (.int .i64 xt) := F.out.cell (hx 3 _ rfl) id
      have x4 : wr.cell? ⟨g, off + j * 7 + 4, none⟩ = some (.bool xfl) := F.out.cell (hx 4 _ rfl) id
      have x5 : wr.cell? ⟨g, off + j * 7 + 5, none⟩ = some (.bool xfa) := F.out.cell (hx 5 _ rfl) id
      have x6 : wr.cell? ⟨g, off + j * 7 + 6, none⟩ = some (.int .i64 xg) := F.out.cell (hx 6 _ rfl) id
      clear hcx hx hX q0 q1 e
      go_wp2_with (first
        | (go_at_call 52; refine (HO.out _).mono ?_; rintro e w4 ⟨rfl, hf⟩)
        | (at_builtin; refine wpList_append_sl _ rfl (.tmp 11) (.tmp 17) 43 rfl w.heap.size 71 i71 _ 7 48 Tryd.underlying43 hi hz0 hz1 hz2 rfl (by decide) _ _ _ _ rfl ((S.out.new_ hf).alloc _) _ 1 1 _ rfl (Rd.fresh_at _ 71 _ rfl (by simp)) (OpR.rcs_one ⟨xk, xa, xo, xt, xfl, xfa, xg⟩) h63 hby (Nat.le_trans HB.out (Nat.le_trans hf.size (by simp))) ?_; intro A3 c3 w5 hap; replace hap := Lib.hid hap))
      go_roundw
      case rel =>
        refine ⟨j + 1, A3, c3, by go_num, by omega, rfl, ?_, ((F.out.then_ hf).then_ ((Frm.refl _ _).alloc _)).trans hap.out.2.1 (fun q hq h => absurd (S.out.ge h).1 (by omega))⟩
        rw [HE.out, opsR_snoc]
        exact hap.out.1
      case measure => simp [intOf]; omega
    · obtain rfl : j = n := by omega
      go_wp2_with fail
      go_ret
      have hS := S.out
      rw [List.take_of_length_le (by have := HXL.out; omega)] at hS
      exact ⟨Ao, co, rfl, hS, F.out⟩
end Go.Proofs.YtmjpaaippilioaaDoor
