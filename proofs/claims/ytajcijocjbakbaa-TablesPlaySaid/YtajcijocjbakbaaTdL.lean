import Derived.Test.YtajcijocjbakbaaTbC
namespace Go.Proofs.Ytajcijocjbakbaa
open Go.RowKit

set_option maxRecDepth 100000 in
set_option maxHeartbeats 1000000 in
theorem same_big (A A' : Option Addr) (n c c' : Nat) (xs : List En) (w : World) (hr : Rd w w.heap.size 3 A n (ens xs)) (hr' : Rd w w.heap.size 3 A' n (ens xs)) (hn : (n : Int) ≤ 4000) :
    Calls Try.prog 42 #[.slice A n c, .slice A' n c'] w fun e w' => e = .returned (.bool true) ∧ Frm w w' fun _ => False := by
  obtain ⟨hlen, hcells⟩ := Rd.ens hr
  obtain ⟨_, hcells'⟩ := Rd.ens hr'
  have HL := Lib.hid hlen
  have HCE := Lib.hid hcells
  have HCE' := Lib.hid hcells'
  have n101 := neq101
  have g101 := eqg101
  clear hr hlen hcells hr' hcells'
  go_enter Try.func42, Try.ntmps42
  go_wp2_with fail
  go_loopw [5] (fun i wr => ∃ k : Nat, i = .int .i64 k ∧ k ≤ n ∧ Frm w wr fun _ => False) (fun i _ => n - (intOf i).toNat)
  case atStart => exact ⟨0, rfl, Nat.zero_le _, Frm.refl _ _⟩
  case round =>
    obtain ⟨k, rfl, hk, hF⟩ := hrel
    have F := Lib.hid hF
    clear hF
    by_cases hlt : k < n
    · obtain ⟨g, off, rfl, hg, hcell⟩ := HCE.out (by omega)
      obtain ⟨g', off', rfl, hg', hcell'⟩ := HCE'.out (by omega)
      have hkl : k < xs.length := by have := HL.out; omega
      obtain ⟨x, hx⟩ : ∃ x, x = xs[k] := ⟨_, rfl⟩
      have hc := hcell k hkl
      have hc' := hcell' k hkl
      rw [← hx] at hc hc'
      obtain ⟨q0, q1, q2⟩ := hc
      obtain ⟨p0, p1, p2⟩ := hc'
      replace q0 := Grown.cell (F.out.cell q0 id)
      replace q1 := Grown.cell (F.out.cell q1 id)
      replace q2 := Grown.cell (F.out.cell q2 id)
      replace p0 := Grown.cell (F.out.cell p0 id)
      replace p1 := Grown.cell (F.out.cell p1 id)
      replace p2 := Grown.cell (F.out.cell p2 id)
      have i0 : (0 : Int) ≤ (k : Int) := by omega
      have i1 : (k : Int) < (n : Int) := by omega
      clear hcell hx hcell'
      go_wp2_with fail
      refine wp_region_grown wr (Frm.refl _ _) (by kernel_rfl) (by kernel_rfl) ?_
      repeat (go_big_quiet_step ((go_at_call 52; refine Calls.grown_of (other_any x _))))
      refine wpQuiet_nil ?_
      intro wq hq
      have F2 := Lib.hid (F.out.then_ hq)
      clear hq q0 q1 q2 p0 p1 p2
      go_wp2_with fail
      go_roundw
      case rel => exact ⟨k + 1, by go_num, by omega, F2.out⟩
      case measure => simp [intOf]; omega
    · obtain rfl : k = n := by omega
      go_wp2_with fail
      go_ret
      exact ⟨rfl, F.out⟩
set_option maxRecDepth 100000 in
set_option maxHeartbeats 1000000 in
theorem spoil_big (B : Nat) (A : Option Addr) (n c : Nat) (ys : List Value) (w : World) (h : Sl w B 3 A n c ys) (hn : (n : Int) ≤ 4000) :
    Calls Try.prog 36 #[.slice A n c] w fun e w' => e = .returned (.tuple #[]) ∧ Frm w w' (blk A) := by
  have H := Lib.hid h
  clear h
  go_enter Try.func36, Try.ntmps36
  go_wp2_with fail
  go_loopw [2] (fun i wr => ∃ (k : Nat) (zs : List Value), i = .int .i64 k ∧ k ≤ n ∧ Sl wr B 3 A n c zs ∧ Frm w wr (blk A)) (fun i _ => n - (intOf i).toNat)
  case atStart => exact ⟨0, ys, rfl, Nat.zero_le _, H.out, Frm.refl _ _⟩
  case round =>
    obtain ⟨k, zs, rfl, hk, hS, hF⟩ := hrel
    by_cases hlt : k < n
    · have hle := hS.le
      obtain ⟨g, off, rfl, _, _, hcA, hfA⟩ := hS.form (by omega)
      have hzl : k * 3 + 2 < zs.length := by rw [hS.len]; omega
      obtain ⟨z0, hz0⟩ : ∃ z, zs[k * 3]? = some z := ⟨_, List.getElem?_eq_getElem (by omega)⟩
      obtain ⟨z1, hz1⟩ : ∃ z, zs[k * 3 + 1]? = some z := ⟨_, List.getElem?_eq_getElem (by omega)⟩
      obtain ⟨z2, hz2⟩ : ∃ z, zs[k * 3 + 2]? = some z := ⟨_, List.getElem?_eq_getElem (by omega)⟩
      have d0 := hcA _ z0 hz0
      have d1 := hcA _ z1 hz1
      have d2 := hcA _ z2 hz2
      have e0 := hfA (k * 3)
      have e1 := hfA (k * 3 + 1)
      have e2 := hfA (k * 3 + 2)
      have N := Lib.hid (((hS.set (j := k * 3) (by omega) (.int .i64 (-77))).set (j := k * 3 + 1) (by rw [List.length_set]; omega) (.int .u32 0)).set (j := k * 3 + 2) (by rw [List.length_set, List.length_set]; omega) (.int .u64 0))
      have NF : Hid (Frm w (((wr.setCell ⟨g, off + k * 3, none⟩ (.int .i64 (-77))).setCell ⟨g, off + (k * 3 + 1), none⟩ (.int .u32 0)).setCell ⟨g, off + (k * 3 + 2), none⟩ (.int .u64 0)) (blk (some ⟨g, off, none⟩))) :=
        ((hF.setCell (p := ⟨g, off + k * 3, none⟩) (fun _ => (blk_some _ _ _).2 rfl) _).setCell (p := ⟨g, off + (k * 3 + 1), none⟩) (fun _ => (blk_some _ _ _).2 rfl) _).setCell (p := ⟨g, off + (k * 3 + 2), none⟩) (fun _ => (blk_some _ _ _).2 rfl) _
      rw [← Nat.add_assoc] at d1 d2 e1 e2
      simp only [← Nat.add_assoc] at N NF
      have i0 : (0 : Int) ≤ (k : Int) := by omega
      have i1 : (k : Int) < (n : Int) := by omega
      clear hS hF hcA hfA hzl hz0 hz1 hz2 hle
      go_wp2_with fail
      go_roundw
      case rel => exact ⟨k + 1, _, by go_num, by omega, N.out, NF.out⟩
      case measure => simp [intOf]; omega
    · obtain rfl : k = n := by omega
      have F := Lib.hid hF
      clear hS hF
      go_wp2_with fail
      go_end0
      exact ⟨rfl, F.out⟩
end Go.Proofs.Ytajcijocjbakbaa
