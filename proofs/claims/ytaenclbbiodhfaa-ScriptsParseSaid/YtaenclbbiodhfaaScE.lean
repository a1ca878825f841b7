import Derived.Test.YtaenclbbiodhfaaScD
import Derived.Test.YtaenclbbiodhfaaOpr
import Derived.Deep.RegionLaw
import Derived.Laws.StructEq
namespace Go.Proofs.Ytaenclbbiodhfaa
open Go.RowKit

theorem cms_get (xs : List Cm) (i : Nat) (hi : i < xs.length) : (cms xs)[i * 2]? = some (.int .u8 (xs[i].k : Nat)) ∧ (cms xs)[i * 2 + 1]? = some (.int .u64 (xs[i].n : Nat)) := by
  have h0 := flat_get Cm.V 2 Cm.len xs i 0 hi (by decide)
  have h1 := flat_get Cm.V 2 Cm.len xs i 1 hi (by decide)
  rw [Nat.add_zero] at h0
  exact ⟨h0, h1⟩
theorem rms_get (xs : List Cm) (i : Nat) (hi : i < xs.length) : (rms xs)[i * 2]? = some (.int .i64 (xs[i].k : Nat)) ∧ (rms xs)[i * 2 + 1]? = some (.int .u64 (xs[i].n : Nat)) := by
  have h0 := flat_get Cm.R 2 (fun _ => rfl) xs i 0 hi (by decide)
  have h1 := flat_get Cm.R 2 (fun _ => rfl) xs i 1 hi (by decide)
  rw [Nat.add_zero] at h0
  exact ⟨h0, h1⟩
theorem rms_len (l : List Cm) : (rms l).length = l.length * 2 := flat_len Cm.R 2 (fun _ => rfl) l
/-- What is read of a slice of commands. -/
theorem Rd.cms {w : World} {B n : Nat} {A : Option Addr} {xs : List Cm} (h : Rd w B 2 A n (cms xs)) : n = xs.length ∧ (0 < n → ∃ g off, A = some ⟨g, off, none⟩ ∧ g < B ∧ ∀ i (hi : i < xs.length), w.cell? ⟨g, off + i * 2, none⟩ = some (.int .u8 (xs[i].k : Nat)) ∧ w.cell? ⟨g, off + i * 2 + 1, none⟩ = some (.int .u64 (xs[i].n : Nat))) := by
  have hl := h.1
  rw [cms_len] at hl
  refine ⟨by omega, fun hp => ?_⟩
  obtain ⟨g, off, e, hb, hc⟩ := h.2 (by rw [cms_len]; omega)
  exact ⟨g, off, e, hb, fun i hi => ⟨hc _ _ (cms_get xs i hi).1, by rw [Nat.add_assoc]; exact hc _ _ (cms_get xs i hi).2⟩⟩
theorem Rd.rms {w : World} {B n : Nat} {A : Option Addr} {xs : List Cm} (h : Rd w B 2 A n (rms xs)) : n = xs.length ∧ (0 < n → ∃ g off, A = some ⟨g, off, none⟩ ∧ g < B ∧ ∀ i (hi : i < xs.length), w.cell? ⟨g, off + i * 2, none⟩ = some (.int .i64 (xs[i].k : Nat)) ∧ w.cell? ⟨g, off + i * 2 + 1, none⟩ = some (.int .u64 (xs[i].n : Nat))) := by
  have hl := h.1
  rw [rms_len] at hl
  refine ⟨by omega, fun hp => ?_⟩
  obtain ⟨g, off, e, hb, hc⟩ := h.2 (by rw [rms_len]; omega)
  exact ⟨g, off, e, hb, fun i hi => ⟨hc _ _ (rms_get xs i hi).1, by rw [Nat.add_assoc]; exact hc _ _ (rms_get xs i hi).2⟩⟩
set_option maxRecDepth 100000 in
set_option maxHeartbeats 1000000 in
theorem other_cm (A : Option Addr) (n c : Nat) (xs : List Cm) (w : World) (hr : Rd w w.heap.size 2 A n (cms xs)) (hn : (n : Int) ≤ 100000) (hk : ∀ x ∈ xs, x.k ≤ 255) :
    Calls Try.prog 76 #[.slice A n c] w (RParsePost xs w) := by
  obtain ⟨hlen, hcells⟩ := Rd.cms hr
  have HL := Lib.hid hlen
  have HCE := Lib.hid hcells
  have HK := Lib.hid hk
  obtain ⟨i131, hi, hz0, hz1, hz2⟩ := info_parts info131
  clear hr hlen hcells hk
  go_enter Try.func76, Try.ntmps76
  go_wp2_with fail
  go_loopw [3, 4] (fun o i wr => ∃ (k : Nat) (Am : Option Addr) (cm : Nat), i = .int .i64 k ∧ k ≤ n ∧ o = .slice Am k cm ∧ Sl wr w.heap.size 2 Am k cm (rms (xs.take k)) ∧ Frm w wr fun _ => False) (fun _ i _ => n - (intOf i).toNat)
  case atStart => exact ⟨0, none, 0, rfl, Nat.zero_le _, rfl, Sl.nil _ _ _, Frm.refl _ _⟩
  case round =>
    obtain ⟨k, Am, cm, rfl, hk, rfl, hS, hF⟩ := hrel
    have S := Lib.hid hS
    have F := Lib.hid hF
    clear hS hF
    by_cases hlt : k < n
    · obtain ⟨g, off, rfl, hg, hcell⟩ := HCE.out (by omega)
      have hkl : k < xs.length := by have := HL.out; omega
      obtain ⟨q0, q1⟩ := hcell k hkl
      have hx255 := HK.out _ (List.getElem_mem hkl)
      obtain ⟨x, hx⟩ : ∃ x, xs[k] = x := ⟨_, rfl⟩
      rw [hx] at q0 q1 hx255
      replace q0 := F.out.cell q0 id
      replace q1 := F.out.cell q1 id
      have i0 : (0 : Int) ≤ (k : Int) := by omega
      have i1 : (k : Int) < (n : Int) := by omega
      have i2 : (k : Int) ≤ 100000 := by omega
      have i3 : (0 : Int) ≤ (x.k : Int) := by omega
      have i4 : (x.k : Int) ≤ 255 := by omega
      have wk : IntKind.i64.wrap (x.k : Int) = (x.k : Int) := IntWalk.i64_in _ (by omega)
      have HX := Lib.hid hx
      obtain ⟨r1, r2⟩ : k + 1 ≤ maxLen ∧ (k + 1) * 16 ≤ 140737488355328 := by unfold maxLen; omega
      have R1 := Lib.hid r1
      have R2 := Lib.hid r2
      clear hcell hx r1 r2 hx255
      go_wp2_with fail
      go_region_law (refine step_append_sl _ rfl (.tmp 11) (.tmp 24) 103 rfl w.heap.size 131 i131 _ 2 16 Try.underlying103 hi hz0 hz1 hz2 rfl (by decide) _ _ _ _ rfl (S.out.alloc _).drew _ 1 1 x.R rfl (Rd.drew (fresh_cm _ 131 #[.int .i64 (x.k : Nat), .int .u64 (x.n : Nat)] rfl rfl)) x.oneR R1.out R2.out (Nat.le_trans F.out.size (by simp)) ?_; intro A' cap' w3 hap2; replace hap2 := Lib.hid hap2)
      all_goals
        dsimp [Act.put]
        go_wp2_with fail
        go_roundw
        case rel => exact ⟨k + 1, A', cap', by go_num, by omega, rfl, by have := hap2.out.1; rw [List.take_succ_eq_append_getElem hkl, rms_snoc, HX.out]; exact this, (F.out.drew.then_ ((Frm.refl _ _).alloc _)).fresh hap2.out.2.1 (fun j hj => (S.out.ge hj).1)⟩
        case measure => simp [intOf]; omega
    · obtain rfl : k = n := by omega
      go_wp2_with fail
      go_ret
      have hs := S.out
      rw [List.take_of_length_le (by have := HL.out; omega)] at hs
      refine ⟨Am, cm, by rw [← HL.out]; rfl, ?_, F.out⟩
      rw [← HL.out]
      exact hs
theorem neq131 (k n : Int) (w : World) : (binOp .neq 131 (.agg #[.int .i64 k, .int .u64 n]) (.agg #[.int .i64 k, .int .u64 n])).run Try.prog w = .ok (.bool false) w := by
  rw [run_neq_struct, run_equalIn_agg _ 9999 131 _ _ (by kernel_rfl) (by kernel_rfl)]
  simp [Program.fieldsOf, Try.underlying131, Op.eqFields, go_sem]
theorem eqg131 (op : BinOp) (x y : Operand) (a b : Array Value) (w : World) : (eqGuard op 131 x y (.agg a) (.agg b)).run Try.prog w = .ok () w :=
  run_eqGuard_agg w op 131 x y _ _ (by kernel_rfl)
theorem eql124 (k n k' n' : Int) (w : World) : (binOp .eql 124 (.agg #[.int .u8 k, .int .u64 n]) (.agg #[.int .u8 k', .int .u64 n'])).run Try.prog w = .ok (.bool (k == k' && n == n')) w := by
  rw [run_eql_struct, run_equalIn_agg _ 9999 124 _ _ (by kernel_rfl) (by kernel_rfl)]
  simp [Program.fieldsOf, Try.underlying124, Op.eqFields, go_sem]
  go_simp
  by_cases h : k = k' <;> by_cases h2 : n = n' <;> simp [h, h2]
theorem eqg124 (op : BinOp) (x y : Operand) (a b : Array Value) (w : World) : (eqGuard op 124 x y (.agg a) (.agg b)).run Try.prog w = .ok () w :=
  run_eqGuard_agg w op 124 x y _ _ (by kernel_rfl)
set_option maxRecDepth 100000 in
set_option maxHeartbeats 1000000 in
theorem same_cm (A A' : Option Addr) (n c c' : Nat) (xs : List Cm) (w : World) (hr : Rd w w.heap.size 2 A n (cms xs)) (hr' : Rd w w.heap.size 2 A' n (rms xs)) (hn : (n : Int) ≤ 100000) (hk : ∀ x ∈ xs, x.k ≤ 255) :
    Calls Try.prog 56 #[.slice A n c, .slice A' n c'] w fun e w' => e = .returned (.bool true) ∧ Frm w w' fun _ => False := by
  have hlen := (Rd.cms hr).1
  have HO := Lib.hid (other_cm A n c xs w hr hn hk)
  have HR' := Lib.hid hr'
  have HL := Lib.hid hlen
  have n131 := neq131
  have g131 := eqg131
  clear hr hlen hr' hk
  go_enter Try.func56, Try.ntmps56
  go_wp2_with (go_at_call 76; refine HO.out.mono ?_; rintro e w2 ⟨Ao, co, rfl, hs, hf⟩; have S := Lib.hid hs; have F := Lib.hid hf; clear hs hf; rw [← HL.out])
  go_loopw [6] (fun i wr => ∃ k : Nat, i = .int .i64 k ∧ k ≤ n ∧ Frm w2 wr fun _ => False) (fun i _ => n - (intOf i).toNat)
  case atStart => exact ⟨0, rfl, Nat.zero_le _, Frm.refl _ _⟩
  case round =>
    obtain ⟨k, rfl, hk, hF2⟩ := hrel
    have F2 := Lib.hid hF2
    clear hF2
    by_cases hlt : k < n
    · have hkl : k < xs.length := by have := HL.out; omega
      obtain ⟨g, off, rfl, hg, hcell⟩ := (Rd.rms (S.out.new_ F2.out).rd).2 (by omega)
      obtain ⟨g', off', rfl, hg', hcell'⟩ := (Rd.rms ((HR'.out.new_ F.out).new_ F2.out)).2 (by omega)
      obtain ⟨q0, q1⟩ := hcell k hkl
      obtain ⟨p0, p1⟩ := hcell' k hkl
      obtain ⟨x, hx⟩ : ∃ x, xs[k] = x := ⟨_, rfl⟩
      rw [hx] at q0 q1 p0 p1
      replace q0 := Grown.cell q0
      replace q1 := Grown.cell q1
      replace p0 := Grown.cell p0
      replace p1 := Grown.cell p1
      have i0 : (0 : Int) ≤ (k : Int) := by omega
      have i1 : (k : Int) < (n : Int) := by omega
      clear hcell hx hcell' hg hg'
      go_wp2_with fail
      refine wp_region_grown wr (Frm.refl _ _) (by kernel_rfl) (by kernel_rfl) ?_
      repeat (go_big_quiet_step (fail))
      refine wpQuiet_nil ?_
      intro wq hq
      replace F2 := Lib.hid (F2.out.then_ hq)
      clear hq q0 q1 p0 p1
      go_wp2_with fail
      go_roundw
      case rel => exact ⟨k + 1, by go_num, by omega, F2.out⟩
      case measure => simp [intOf]; omega
    · obtain rfl : k = n := by omega
      go_wp2_with fail
      go_ret
      exact ⟨rfl, F.out.then_ F2.out⟩
end Go.Proofs.Ytaenclbbiodhfaa
