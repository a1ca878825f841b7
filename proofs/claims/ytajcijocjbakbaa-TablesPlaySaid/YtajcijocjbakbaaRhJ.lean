import Derived.Test.YtajcijocjbakbaaRhA
import Derived.BigQuiet
namespace Go.Proofs.Ytajcijocjbakbaa
open Go.RowKit

set_option maxRecDepth 100000 in
set_option maxHeartbeats 1000000 in
theorem other_any (x : En) (w : World) : Calls Try.prog 52 #[En.val x] w fun e w' => e = .returned (En.val x) ∧ Frm w w' fun _ => False := by
  go_enter Try.func52, Try.ntmps52
  go_wp2
  refine bodyPost_ret (v := En.val x) (by simp [En.val, results, Try.results52, go_sem]) rfl ⟨rfl, ?_⟩
  exact ((Frm.refl _ _).alloc _).alloc _
theorem neq101 (t k z : Int) (w : World) : (binOp .neq 101 (.agg #[.int .i64 t, .int .u32 k, .int .u64 z]) (.agg #[.int .i64 t, .int .u32 k, .int .u64 z])).run Try.prog w = .ok (.bool false) w := by
  rw [run_neq_struct, run_equalIn_agg _ 9999 101 _ _ (by kernel_rfl) (by kernel_rfl)]
  simp [Program.fieldsOf, Try.underlying101, Op.eqFields, go_sem]
theorem eqg101 (op : BinOp) (x y : Operand) (a b : Array Value) (w : World) : (eqGuard op 101 x y (.agg a) (.agg b)).run Try.prog w = .ok () w :=
  run_eqGuard_agg w op 101 x y _ _ (by kernel_rfl)
set_option maxRecDepth 100000 in
set_option maxHeartbeats 1000000 in
theorem others_any (A : Option Addr) (n c : Nat) (xs : List En) (w : World) (hr : Rd w w.heap.size 3 A n (ens xs)) (hn : (n : Int) ≤ 1000) :
    Calls Try.prog 38 #[.slice A n c] w fun e w' => ∃ Am cm, e = .returned (.slice Am n cm) ∧ Sl w' w.heap.size 3 Am n cm (ens xs) ∧ Frm w w' fun _ => False := by
  obtain ⟨hlen, hcells⟩ := Rd.ens hr
  have HL := Lib.hid hlen
  have HCE := Lib.hid hcells
  obtain ⟨i101, hi, hz0, hz1, hz2⟩ := info_parts info101
  clear hr hlen hcells
  go_enter Try.func38, Try.ntmps38
  go_wp2_with fail
  go_loopw [3, 4] (fun o i wr => ∃ (k : Nat) (Am : Option Addr) (cm : Nat), i = .int .i64 k ∧ k ≤ n ∧ o = .slice Am k cm ∧ Sl wr w.heap.size 3 Am k cm (ens (xs.take k)) ∧ Frm w wr fun _ => False) (fun _ i _ => n - (intOf i).toNat)
  case atStart => exact ⟨0, none, 0, rfl, Nat.zero_le _, rfl, Sl.nil _ _ _, Frm.refl _ _⟩
  case round =>
    obtain ⟨k, Am, cm, rfl, hk, rfl, hS, hF⟩ := hrel
    have S := Lib.hid hS
    have F := Lib.hid hF
    clear hS hF
    by_cases hlt : k < n
    · obtain ⟨g, off, rfl, hg, hcell⟩ := HCE.out (by omega)
      have hkl : k < xs.length := by have := HL.out; omega
      obtain ⟨x, hx⟩ : ∃ x, x = xs[k] := ⟨_, rfl⟩
      have hc := hcell k hkl
      rw [← hx] at hc
      obtain ⟨q0, q1, q2⟩ := hc
      replace q0 := F.out.cell q0 id
      replace q1 := F.out.cell q1 id
      replace q2 := F.out.cell q2 id
      have i0 : (0 : Int) ≤ (k : Int) := by omega
      have i1 : (k : Int) < (n : Int) := by omega
      have HX := Lib.hid hx
      have bb : k + 1 ≤ maxLen ∧ (k + 1) * 24 ≤ 140737488355328 := by unfold maxLen; omega
      obtain ⟨r1, r2⟩ := bb
      clear hcell hx
      go_wp2_with (first
        | (go_at_call 52; refine (other_any x _).mono ?_; rintro e w2 ⟨rfl, hf⟩; have S2 := Lib.hid (S.out.new_ hf); have F2 := Lib.hid (F.out.then_ hf); clear hf)
        | (at_builtin; refine wpList_append_sl _ rfl _ _ 93 rfl w.heap.size 101 i101 _ 3 24 Try.underlying93 hi hz0 hz1 hz2 rfl (by decide) _ _ _ _ rfl (S2.out.alloc _) _ 1 1 x.V rfl (Rd.fresh_at _ 101 #[.int .i64 x.t, .int .u32 x.k, .int .u64 x.tok] rfl rfl) x.one r1 r2 (Nat.le_trans F2.out.size (by simp)) ?_; intro A' cap' w3 hap; replace hap := Lib.hid hap))
      go_roundw
      case rel => exact ⟨k + 1, A', cap', by go_num, by omega, rfl, by have := hap.out.1; rw [List.take_succ_eq_append_getElem hkl, ens_snoc, ← HX.out]; exact this, (F2.out.then_ ((Frm.refl _ _).alloc _)).fresh hap.out.2.1 (fun j hj => (S2.out.ge hj).1)⟩
      case measure => simp [intOf]; omega
    · obtain rfl : k = n := by omega
      go_wp2_with fail
      go_ret
      exact ⟨Am, cm, rfl, by have := S.out; rw [List.take_of_length_le (by have := HL.out; omega)] at this; exact this, F.out⟩
set_option maxRecDepth 100000 in
set_option maxHeartbeats 1000000 in
theorem same_ents (A A' : Option Addr) (n c c' : Nat) (xs : List En) (w : World) (hr : Rd w w.heap.size 3 A n (ens xs)) (hr' : Rd w w.heap.size 3 A' n (ens xs)) (hn : (n : Int) ≤ 1000) :
    Calls Try.prog 42 #[.slice A n c, .slice A' n c'] w fun e w' => e = .returned (.bool true) ∧ Frm w w' fun _ => False := by
  obtain ⟨hlen, hcells⟩ := Rd.ens hr
  obtain ⟨_, hcells'⟩ := Rd.ens hr'
  have HL := Lib.hid hlen
  have HCE := Lib.hid hcells
  have HCE' := Lib.hid hcells'
  have n101 := neq101
  have g101 := eqg101
  clear hr hlen hcells hr' hcells'
  go_enter Try.func42, Try.ntmps42
  go_wp2_with fail
  go_loopw [5] (fun i wr => ∃ k : Nat, i = .int .i64 k ∧ k ≤ n ∧ Frm w wr fun _ => False) (fun i _ => n - (intOf i).toNat)
  case atStart => exact ⟨0, rfl, Nat.zero_le _, Frm.refl _ _⟩
  case round =>
    obtain ⟨k, rfl, hk, hF⟩ := hrel
    have F := Lib.hid hF
    clear hF
    by_cases hlt : k < n
    · obtain ⟨g, off, rfl, hg, hcell⟩ := HCE.out (by omega)
      obtain ⟨g', off', rfl, hg', hcell'⟩ := HCE'.out (by omega)
      have hkl : k < xs.length := by have := HL.out; omega
      obtain ⟨x, hx⟩ : ∃ x, x = xs[k] := ⟨_, rfl⟩
      have hc := hcell k hkl
      have hc' := hcell' k hkl
      rw [← hx] at hc hc'
      obtain ⟨q0, q1, q2⟩ := hc
      obtain ⟨p0, p1, p2⟩ := hc'
      replace q0 := Grown.cell (F.out.cell q0 id)
      replace q1 := Grown.cell (F.out.cell q1 id)
      replace q2 := Grown.cell (F.out.cell q2 id)
      replace p0 := Grown.cell (F.out.cell p0 id)
      replace p1 := Grown.cell (F.out.cell p1 id)
      replace p2 := Grown.cell (F.out.cell p2 id)
      have i0 : (0 : Int) ≤ (k : Int) := by omega
      have i1 : (k : Int) < (n : Int) := by omega
      clear hcell hx hcell'
      go_wp2_with fail
      refine wp_region_grown wr (Frm.refl _ _) (by kernel_rfl) (by kernel_rfl) ?_
      repeat (go_big_quiet_step ((go_at_call 52; refine Calls.grown_of (other_any x _))))
      refine wpQuiet_nil ?_
      intro wq hq
      have F2 := Lib.hid (F.out.then_ hq)
      clear hq q0 q1 q2 p0 p1 p2
      go_wp2_with fail
      go_roundw
      case rel => exact ⟨k + 1, by go_num, by omega, F2.out⟩
      case measure => simp [intOf]; omega
    · obtain rfl : k = n := by omega
      go_wp2_with fail
      go_ret
      exact ⟨rfl, F.out⟩
set_option maxRecDepth 100000 in
set_option maxHeartbeats 1000000 in
theorem spoil_any (B : Nat) (A : Option Addr) (n c : Nat) (ys : List Value) (w : World) (h : Sl w B 3 A n c ys) (hn : (n : Int) ≤ 1000) :
    Calls Try.prog 36 #[.slice A n c] w fun e w' => e = .returned (.tuple #[]) ∧ Frm w w' (blk A) := by
  have H := Lib.hid h
  clear h
  go_enter Try.func36, Try.ntmps36
  go_wp2_with fail
  go_loopw [2] (fun i wr => ∃ (k : Nat) (zs : List Value), i = .int .i64 k ∧ k ≤ n ∧ Sl wr B 3 A n c zs ∧ Frm w wr (blk A)) (fun i _ => n - (intOf i).toNat)
  case atStart => exact ⟨0, ys, rfl, Nat.zero_le _, H.out, Frm.refl _ _⟩
  case round =>
    obtain ⟨k, zs, rfl, hk, hS, hF⟩ := hrel
    by_cases hlt : k < n
    · have hle := hS.le
      obtain ⟨g, off, rfl, _, _, hcA, hfA⟩ := hS.form (by omega)
      have hzl : k * 3 + 2 < zs.length := by rw [hS.len]; omega
      obtain ⟨z0, hz0⟩ : ∃ z, zs[k * 3]? = some z := ⟨_, List.getElem?_eq_getElem (by omega)⟩
      obtain ⟨z1, hz1⟩ : ∃ z, zs[k * 3 + 1]? = some z := ⟨_, List.getElem?_eq_getElem (by omega)⟩
      obtain ⟨z2, hz2⟩ : ∃ z, zs[k * 3 + 2]? = some z := ⟨_, List.getElem?_eq_getElem (by omega)⟩
      have d0 := hcA _ z0 hz0
      have d1 := hcA _ z1 hz1
      have d2 := hcA _ z2 hz2
      have e0 := hfA (k * 3)
      have e1 := hfA (k * 3 + 1)
      have e2 := hfA (k * 3 + 2)
      have N := Lib.hid (((hS.set (j := k * 3) (by omega) (.int .i64 (-77))).set (j := k * 3 + 1) (by rw [List.length_set]; omega) (.int .u32 0)).set (j := k * 3 + 2) (by rw [List.length_set, List.length_set]; omega) (.int .u64 0))
      have NF : Hid (Frm w (((wr.setCell ⟨g, off + k * 3, none⟩ (.int .i64 (-77))).setCell ⟨g, off + (k * 3 + 1), none⟩ (.int .u32 0)).setCell ⟨g, off + (k * 3 + 2), none⟩ (.int .u64 0)) (blk (some ⟨g, off, none⟩))) :=
        ((hF.setCell (p := ⟨g, off + k * 3, none⟩) (fun _ => (blk_some _ _ _).2 rfl) _).setCell (p := ⟨g, off + (k * 3 + 1), none⟩) (fun _ => (blk_some _ _ _).2 rfl) _).setCell (p := ⟨g, off + (k * 3 + 2), none⟩) (fun _ => (blk_some _ _ _).2 rfl) _
      rw [← Nat.add_assoc] at d1 d2 e1 e2
      simp only [← Nat.add_assoc] at N NF
      have i0 : (0 : Int) ≤ (k : Int) := by omega
      have i1 : (k : Int) < (n : Int) := by omega
      clear hS hF hcA hfA hzl hz0 hz1 hz2 hle
      go_wp2_with fail
      go_roundw
      case rel => exact ⟨k + 1, _, by go_num, by omega, N.out, NF.out⟩
      case measure => simp [intOf]; omega
    · obtain rfl : k = n := by omega
      have F := Lib.hid hF
      clear hS hF
      go_wp2_with fail
      go_end0
      exact ⟨rfl, F.out⟩
end Go.Proofs.Ytajcijocjbakbaa
