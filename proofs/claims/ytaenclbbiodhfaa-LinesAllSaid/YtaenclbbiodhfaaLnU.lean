import Derived.Test.YtaenclbbiodhfaaLnT
namespace Go.Proofs.Ytaenclbbiodhfaa
open Go.RowKit

set_option maxRecDepth 100000 in
set_option maxHeartbeats 4000000 in
theorem rchosen_any (A X : Option Addr) (n c m cx : Nat) (key : Int) (xs : List En) (ch : List Nat) (w : World) (hr : Rd w w.heap.size 3 A n (ens xs)) (hn : (n : Int) ≤ 1000) (hch : Rd w w.heap.size 1 X m (iz ch)) (hm : (m : Int) ≤ 1000) :
    Calls Try.prog 31 #[.slice A n c, .int .u32 key, .slice X m cx] w fun e w' => ∃ Ay cy An cn, e = .returned (.tuple #[.slice Ay (chTaken ch key xs).length cy, .slice An (chLeft ch key xs).length cn]) ∧
      Side (chSo ch key xs) xs w w' xs.length Ay cy An cn := by
  obtain ⟨i47, hi, hz0, hz1, hz2⟩ := info_parts info47
  obtain ⟨hl, hcells⟩ := Rd.ens hr
  obtain ⟨hlc, hcc⟩ := iz_cells hch
  have HCE := Lib.hid hcells
  have HL := Lib.hid hl
  have HCC := Lib.hid hcc
  have HLC := Lib.hid hlc
  have HM := Lib.hid hm
  clear hr hl hcells hch hlc hcc hm
  obtain ⟨so, hso⟩ : ∃ so, so = chSo ch key xs := ⟨_, rfl⟩
  have HS := Lib.hid hso
  rw [show chTaken ch key xs = sel so xs xs.length from by rw [hso]; rfl, show chLeft ch key xs = sel (fun i => !(so i)) xs xs.length from by rw [hso]; rfl, ← hso]
  clear hso
  go_enter Try.func31, Try.ntmps31
  go_wp2_with fail
  go_loopw [8, 9, 10, 11, 12, 13] (fun y z a s i _ wr => ∃ (k : Nat) (Ay : Option Addr) (cy : Nat) (An : Option Addr) (cn : Nat), i = .int .i64 k ∧ k ≤ n ∧ y = .slice Ay (sel so xs k).length cy ∧ z = .slice An (sel (fun i => !(so i)) xs k).length cn ∧ a = .int .i64 (chRun ch key (xs.take k)).2.length ∧ s = .bool (!(chRun ch key (xs.take k)).1) ∧ Side so xs w wr k Ay cy An cn) (fun _ _ _ _ i _ _ => n - (intOf i).toNat)
  case atStart => exact ⟨0, none, 0, none, 0, rfl, Nat.zero_le _, rfl, rfl, rfl, rfl, Side.start⟩
  case round =>
    obtain ⟨k, Ay, cy, An, cn, rfl, hk, rfl, rfl, rfl, rfl, hM⟩ := hrel
    have M := Lib.hid hM
    have hle1 := sel_le so xs k
    have hle2 := sel_le (fun i => !(so i)) xs k
    by_cases hlt : k < n
    · obtain ⟨g, off, rfl, hg, hcell⟩ := HCE.out (by omega)
      have hkl : k < xs.length := by have := HL.out; omega
      obtain ⟨x, hx⟩ : ∃ x, x = xs[k] := ⟨_, rfl⟩
      have hc := hcell k hkl
      rw [← hx] at hc
      obtain ⟨q0, q1, q2⟩ := hc
      replace q0 := hM.frm.cell q0 id
      replace q1 := hM.frm.cell q1 id
      replace q2 := hM.frm.cell q2 id
      have i0 : (0 : Int) ≤ (k : Int) := by omega
      have i1 : (k : Int) < (n : Int) := by omega
      have HX := Lib.hid hx
      have hsy := hM.sy
      have hsn := hM.sn
      have hrun := chRun_succ ch key xs k hkl
      have hsok := chSo_at ch key xs k hkl
      rw [← hx, ← HS.out] at hsok
      rw [← hx] at hrun
      obtain ⟨ly, hly⟩ : ∃ l, (sel so xs k).length = l := ⟨_, rfl⟩
      obtain ⟨ln, hln⟩ : ∃ l, (sel (fun i => !(so i)) xs k).length = l := ⟨_, rfl⟩
      rw [hly] at hsy hle1
      rw [hln] at hsn hle2
      have HLY := Lib.hid hly
      have HLN := Lib.hid hln
      have SY := Lib.hid hsy
      have SN := Lib.hid hsn
      have bb : ly + 1 ≤ maxLen ∧ (ly + 1) * 24 ≤ 140737488355328 ∧ ln + 1 ≤ maxLen ∧ (ln + 1) * 24 ≤ 140737488355328 := by unfold maxLen; omega
      obtain ⟨r1, r2, r3, r4⟩ := bb
      obtain ⟨a, ha⟩ : ∃ l, (chRun ch key (xs.take k)).2.length = l := ⟨_, rfl⟩
      obtain ⟨on, hon⟩ : ∃ o, (chRun ch key (xs.take k)).1 = o := ⟨_, rfl⟩
      have hal : a ≤ k := by rw [← ha]; refine Nat.le_trans (chRun_len _ _ _) ?_; rw [List.length_take]; omega
      have a0 : (0 : Int) ≤ (a : Int) := by omega
      have a1 : (a : Int) ≤ 1000 := by omega
      rw [hly, hln, ha, hon]
      rw [ha, hon] at hsok
      unfold chStep at hrun
      rw [ha, hon] at hrun
      have HR0 : Hid ((chRun ch key (xs.take k)).2.length = a ∧ (chRun ch key (xs.take k)).1 = on) := ⟨ha, hon⟩
      clear hcell hx hly hln hsy hsn hM ha hon
      by_cases hkey : x.k = key
      · have b1 : (x.k != key) = false := by simp [hkey]
        cases on with
        | false =>
          have HSO : Hid (so k = false) := by show _ = _; rw [hsok]; simp
          have HN1 : Hid ((chRun ch key (xs.take (k + 1))).2.length = a) := by show _ = _; rw [hrun]; rw [if_neg (by simp)]; exact HR0.out.1
          have HN2 : Hid ((chRun ch key (xs.take (k + 1))).1 = false) := by show _ = _; rw [hrun]; rw [if_neg (by simp)]; exact HR0.out.2
          clear hsok hrun hkey
          go_wp2_with (at_builtin; first
            | (refine wpList_append_sl _ rfl _ _ 37 rfl w.heap.size 47 i47 _ 3 24 Try.underlying37 hi hz0 hz1 hz2 rfl (by decide) _ _ _ _ rfl (SN.out.alloc _) _ 1 1 x.V rfl (Rd.fresh_at _ 47 #[.int .i64 x.t, .int .u32 x.k, .int .u64 x.tok] rfl rfl) x.one r3 r4 (Nat.le_trans M.out.frm.size (by simp)) ?_; intro A' cap' w3 hap; replace hap := Lib.hid hap))
          go_roundw
          case rel => exact ⟨k + 1, Ay, cy, A', cap', by go_num, by omega, by rw [sel_succ _ xs k hkl, HSO.out, List.length_append, HLY.out]; rfl, by rw [sel_succ _ xs k hkl, HSO.out, List.length_append, HLN.out]; rfl, by rw [HN1.out], by rw [HN2.out]; rfl, M.out.leaves hkl HSO.out HX.out HLN.out ((Frm.refl _ _).alloc _) hap.out⟩
          case measure => simp [intOf]; omega
        | true =>
          have HK : Hid (x.k = key) := hkey
          rw [if_pos ⟨hkey, rfl⟩] at hrun
          replace hsok : so k = decide (chV ch a = 0) := by rw [hsok]; simp [hkey]
          clear hkey
          by_cases ham : a < m
          · obtain ⟨gc, oc, rfl, _, hcc⟩ := HCC.out (by omega)
            have hac : a < ch.length := by have := HLC.out; omega
            have qc := M.out.frm.cell (hcc a hac) id
            obtain ⟨v, hv⟩ : ∃ v, v = ch[a] % 4 := ⟨_, rfl⟩
            have hV : chV ch a = v := by unfold chV; rw [if_pos hac, hv, List.getD_eq_getElem?_getD, List.getElem?_eq_getElem hac]; rfl
            rw [← hv] at qc
            rw [hV] at hrun hsok
            have a2 : (a : Int) < (m : Int) := by omega
            have a3 : (m : Int) ≤ 1000 := HM.out
            clear hcc hv hV
            by_cases hv0 : v = 0
            · subst hv0
              have HSO : Hid (so k = true) := by show _ = _; rw [hsok]; rfl
              have HN1 : Hid ((chRun ch key (xs.take (k + 1))).2.length = a + 1) := by show _ = _; rw [hrun]; rw [List.length_append, HR0.out.1]; rfl
              have HN2 : Hid ((chRun ch key (xs.take (k + 1))).1 = true) := by show _ = _; rw [hrun]; rfl
              clear hsok hrun
              go_wp2_with (at_builtin; first
                | (refine wpList_append_sl _ rfl _ _ 37 rfl w.heap.size 47 i47 _ 3 24 Try.underlying37 hi hz0 hz1 hz2 rfl (by decide) _ _ _ _ rfl (SY.out.alloc _) _ 1 1 x.V rfl (Rd.fresh_at _ 47 #[.int .i64 x.t, .int .u32 x.k, .int .u64 x.tok] rfl rfl) x.one r1 r2 (Nat.le_trans M.out.frm.size (by simp)) ?_; intro A' cap' w3 hap; replace hap := Lib.hid hap))
              go_roundw
              case rel => exact ⟨k + 1, A', cap', An, cn, by go_num, by omega, by rw [sel_succ _ xs k hkl, HSO.out, List.length_append, HLY.out]; rfl, by rw [sel_succ _ xs k hkl, HSO.out, List.length_append, HLN.out]; rfl, by rw [HN1.out]; go_num, by rw [HN2.out]; rfl, M.out.takes hkl HSO.out HX.out HLY.out ((Frm.refl _ _).alloc _) hap.out⟩
              case measure => simp [intOf]; omega
            · by_cases hv1 : v = 1
              · subst hv1
                have HSO : Hid (so k = false) := by show _ = _; rw [hsok]; rfl
                have HN1 : Hid ((chRun ch key (xs.take (k + 1))).2.length = a + 1) := by show _ = _; rw [hrun]; rw [List.length_append, HR0.out.1]; rfl
                have HN2 : Hid ((chRun ch key (xs.take (k + 1))).1 = true) := by show _ = _; rw [hrun]; rfl
                clear hsok hrun
                go_wp2_with (at_builtin; first
                  | (refine wpList_append_sl _ rfl _ _ 37 rfl w.heap.size 47 i47 _ 3 24 Try.underlying37 hi hz0 hz1 hz2 rfl (by decide) _ _ _ _ rfl (SN.out.alloc _) _ 1 1 x.V rfl (Rd.fresh_at _ 47 #[.int .i64 x.t, .int .u32 x.k, .int .u64 x.tok] rfl rfl) x.one r3 r4 (Nat.le_trans M.out.frm.size (by simp)) ?_; intro A' cap' w3 hap; replace hap := Lib.hid hap))
                go_roundw
                case rel => exact ⟨k + 1, Ay, cy, A', cap', by go_num, by omega, by rw [sel_succ _ xs k hkl, HSO.out, List.length_append, HLY.out]; rfl, by rw [sel_succ _ xs k hkl, HSO.out, List.length_append, HLN.out]; rfl, by rw [HN1.out]; go_num, by rw [HN2.out]; rfl, M.out.leaves hkl HSO.out HX.out HLN.out ((Frm.refl _ _).alloc _) hap.out⟩
                case measure => simp [intOf]; omega
              · have b2 : ((v : Int) == 0) = false := by simp; omega
                have b3 : ((v : Int) != 1) = true := by simp; omega
                have HSO : Hid (so k = false) := by show _ = _; rw [hsok]; simp [hv0]
                have HN1 : Hid ((chRun ch key (xs.take (k + 1))).2.length = a + 1) := by show _ = _; rw [hrun]; rw [List.length_append, HR0.out.1]; rfl
                have HN2 : Hid ((chRun ch key (xs.take (k + 1))).1 = false) := by show _ = _; rw [hrun]; simp [hv0, hv1]
                clear hsok hrun hv0 hv1
                go_wp2_with (at_builtin; first
                  | (refine wpList_append_sl _ rfl _ _ 37 rfl w.heap.size 47 i47 _ 3 24 Try.underlying37 hi hz0 hz1 hz2 rfl (by decide) _ _ _ _ rfl (SN.out.alloc _) _ 1 1 x.V rfl (Rd.fresh_at _ 47 #[.int .i64 x.t, .int .u32 x.k, .int .u64 x.tok] rfl rfl) x.one r3 r4 (Nat.le_trans M.out.frm.size (by simp)) ?_; intro A' cap' w3 hap; replace hap := Lib.hid hap))
                go_roundw
                case rel => exact ⟨k + 1, Ay, cy, A', cap', by go_num, by omega, by rw [sel_succ _ xs k hkl, HSO.out, List.length_append, HLY.out]; rfl, by rw [sel_succ _ xs k hkl, HSO.out, List.length_append, HLN.out]; rfl, by rw [HN1.out]; go_num, by rw [HN2.out]; rfl, M.out.leaves hkl HSO.out HX.out HLN.out ((Frm.refl _ _).alloc _) hap.out⟩
                case measure => simp [intOf]; omega
          · have hac : ¬ a < ch.length := by have := HLC.out; omega
            have hV : chV ch a = 2 := by unfold chV; rw [if_neg hac]
            rw [hV] at hrun hsok
            have a2 : (m : Int) ≤ (a : Int) := by omega
            clear hac hV
            have HSO : Hid (so k = false) := by show _ = _; rw [hsok]; rfl
            have HN1 : Hid ((chRun ch key (xs.take (k + 1))).2.length = a + 1) := by show _ = _; rw [hrun]; rw [List.length_append, HR0.out.1]; rfl
            have HN2 : Hid ((chRun ch key (xs.take (k + 1))).1 = false) := by show _ = _; rw [hrun]; rfl
            clear hsok hrun
            go_wp2_with (at_builtin; first
              | (refine wpList_append_sl _ rfl _ _ 37 rfl w.heap.size 47 i47 _ 3 24 Try.underlying37 hi hz0 hz1 hz2 rfl (by decide) _ _ _ _ rfl (SN.out.alloc _) _ 1 1 x.V rfl (Rd.fresh_at _ 47 #[.int .i64 x.t, .int .u32 x.k, .int .u64 x.tok] rfl rfl) x.one r3 r4 (Nat.le_trans M.out.frm.size (by simp)) ?_; intro A' cap' w3 hap; replace hap := Lib.hid hap))
            go_roundw
            case rel => exact ⟨k + 1, Ay, cy, A', cap', by go_num, by omega, by rw [sel_succ _ xs k hkl, HSO.out, List.length_append, HLY.out]; rfl, by rw [sel_succ _ xs k hkl, HSO.out, List.length_append, HLN.out]; rfl, by rw [HN1.out]; go_num, by rw [HN2.out]; rfl, M.out.leaves hkl HSO.out HX.out HLN.out ((Frm.refl _ _).alloc _) hap.out⟩
            case measure => simp [intOf]; omega
      · have b1 : (x.k != key) = true := by simp [hkey]
        have HSO : Hid (so k = false) := by show _ = _; rw [hsok]; simp [hkey]
        have HN1 : Hid ((chRun ch key (xs.take (k + 1))).2.length = a) := by show _ = _; rw [hrun]; rw [if_neg (by simp [hkey])]; exact HR0.out.1
        have HN2 : Hid ((chRun ch key (xs.take (k + 1))).1 = on) := by show _ = _; rw [hrun]; rw [if_neg (by simp [hkey])]; exact HR0.out.2
        clear hsok hrun hkey
        go_wp2_with (at_builtin; first
          | (refine wpList_append_sl _ rfl _ _ 37 rfl w.heap.size 47 i47 _ 3 24 Try.underlying37 hi hz0 hz1 hz2 rfl (by decide) _ _ _ _ rfl (SN.out.alloc _) _ 1 1 x.V rfl (Rd.fresh_at _ 47 #[.int .i64 x.t, .int .u32 x.k, .int .u64 x.tok] rfl rfl) x.one r3 r4 (Nat.le_trans M.out.frm.size (by simp)) ?_; intro A' cap' w3 hap; replace hap := Lib.hid hap))
        go_roundw
        case rel => exact ⟨k + 1, Ay, cy, A', cap', by go_num, by omega, by rw [sel_succ _ xs k hkl, HSO.out, List.length_append, HLY.out]; rfl, by rw [sel_succ _ xs k hkl, HSO.out, List.length_append, HLN.out]; rfl, by rw [HN1.out], by rw [HN2.out], M.out.leaves hkl HSO.out HX.out HLN.out ((Frm.refl _ _).alloc _) hap.out⟩
        case measure => simp [intOf]; omega
    · obtain rfl : k = n := by omega
      clear hM
      go_wp2_with fail
      go_ret2
      have hkx : k = xs.length := HL.out
      subst hkx
      exact ⟨Ay, cy, An, cn, rfl, M.out⟩
end Go.Proofs.Ytaenclbbiodhfaa
