import Derived.Test.YtmjpaaippilioaaDoorPhV
import Derived.Test.YtmjpaaippilioaaDoorSlc
namespace Go.Proofs.YtmjpaaippilioaaDoor
open Go.RowKit

/-! ### Split -/
theorem info39 : (Tryd.prog.info? 39).map (fun i => (i.zero, i.size, i.bytes)) = some (some (.slice none 0 0), 1, 24) := by kernel_rfl
theorem made_hds (n : Nat) : (madeCells (Value.slice none 0 0).cells (n * 1)).toList = hds (List.replicate n ⟨none, 0, 0⟩) := by
  unfold hds
  rw [List.map_replicate, Nat.mul_one]
  apply List.ext_getElem
  · simp [madeCells]
  · intro i h1 h2
    simp [madeCells, Value.cells, Nat.mod_one]
theorem OwD.dealt {wr W1 w3 : World} {B C g z p ni ci c' : Nat} {hs : List Hd} {qs : List (List OpR)} {Ai A' : Option Addr} {q : List OpR} {x : OpR} (h : OwD wr B C (some ⟨g, 0, none⟩) z z hs qs) (hW : Frm wr W1 fun _ => False) (hh : hs[p]? = some ⟨Ai, ni, ci⟩)
    (hap : Appended W1 w3 C 7 Ai A' (ni + 1) c' (opsV q ++ x.cs)) : OwD (w3.setCell ⟨g, p, none⟩ (.slice A' (ni + 1) c')) B C (some ⟨g, 0, none⟩) z z (hs.set p ⟨A', ni + 1, c'⟩) (qs.set p (q ++ [x])) := by
  obtain ⟨h1, h2⟩ := List.getElem?_eq_some_iff.1 hh
  obtain ⟨a1, a2, a3⟩ := hap
  have := (h.new_ hW).put (i := p) h1 (w2 := w3) (A' := A') (n' := ni + 1) (c' := c') (q := q ++ [x]) (by rw [opsV_snoc]; exact a1) (by rw [h2]; exact a2) (by rw [h2]; exact a3)
  rw [Nat.zero_add] at this
  exact this
set_option maxRecDepth 100000 in
theorem split_none (A : Option Addr) (n c : Nat) (m : Int) (hm : m < 1) (w : World) : Calls Tryd.prog 42 #[.slice A n c, .int .i64 m] w fun e w' => e = .returned (.slice none 0 0) ∧ w = w' := by
  have hm2 : min m 64 < 1 := by omega
  go_enter Tryd.func42, Tryd.ntmps42
  go_wp2_with fail
  go_ret
  exact ⟨rfl, rfl⟩
set_option maxRecDepth 100000 in
set_option maxHeartbeats 4000000 in
theorem split_any (A : Option Addr) (n c m : Nat) (hm1 : 1 ≤ m) (hm2 : (m : Int) ≤ 9223372036854775807) (xs : List OpR) (w : World) (hr : Rd w w.heap.size 7 A n (opsV xs)) (hn : (n : Int) ≤ 1000) :
    Calls Tryd.prog 42 #[.slice A n c, .int .i64 m] w fun e w' => ∃ g hs', e = .returned (.slice (some ⟨g, 0, none⟩) (min m 64) (min m 64)) ∧ OwD w' w.heap.size w.heap.size (some ⟨g, 0, none⟩) (min m 64) (min m 64) hs' (cols (min m 64) xs) ∧ (∀ h ∈ hs', h.n = h.c) ∧ Frm w w' fun _ => False := by
  obtain ⟨i39, hi, hz0, hz1, hz2⟩ := info_parts info39
  obtain ⟨i50, ji, jz0, jz1, jz2⟩ := info_parts info50
  obtain ⟨hxl, hxc⟩ := Rd.rows OpR.cs_len (by decide) hr
  have HXL := Lib.hid hxl
  have HXC := Lib.hid hxc
  obtain ⟨z, hz⟩ : ∃ z, min m 64 = z := ⟨_, rfl⟩
  rw [hz]
  have hz1' : 1 ≤ z := by omega
  have hz64 : z ≤ 64 := by omega
  have hmin : min (m : Int) 64 = (z : Int) := by omega
  have z0 : (0 : Int) < (z : Int) := by omega
  have z1 : (z : Int) ≤ 64 := by omega
  have zb : 24 * z ≤ 281474976710656 ∧ z ≤ maxLen := by unfold maxLen; omega
  clear hxl hxc hr hz
  go_enter Tryd.func42, Tryd.ntmps42
  go_wp2_with (at_make; refine wpList_make_sl _ rfl (.tmp 13) (.tmp 13) 59 rfl 39 i39 _ 1 Tryd.underlying59 hi hz0 hz1 _ _ _ _ z rfl rfl rfl rfl (by rw [hz2]; exact zb.1) zb.2 ?_; intro w1 hs1 hf1 hw1; rw [made_hds] at hs1; have S1 := Lib.hid hs1; have F1 := Lib.hid hf1; clear hs1 hf1)
  have hO : OwD w1 w.heap.size w.heap.size (some ⟨w.heap.size, 0, none⟩) z z (List.replicate z ⟨none, 0, 0⟩) (List.replicate z []) := OwD.made S1.out _
  have HO := Lib.hid hO
  clear hO hw1 hmin hm1 hm2
  go_loopw [17] (fun i wr => ∃ (j : Nat) (hs : List Hd), i = .int .i64 j ∧ j ≤ n ∧ OwD wr w.heap.size w.heap.size (some ⟨w.heap.size, 0, none⟩) z z hs (cols z (xs.take j)) ∧ Frm w wr fun _ => False) (fun i _ => n - (intOf i).toNat)
  case atStart => exact ⟨0, _, rfl, Nat.zero_le _, by rw [List.take_zero, cols_nil]; exact HO.out, F1.out⟩
  case round =>
    clear HO S1 F1
    obtain ⟨j, hs, rfl, hj, hO, hF⟩ := hrel
    have HO := Lib.hid hO
    have F := Lib.hid hF
    have j0 : (0 : Int) ≤ (j : Int) := by omega
    have j1 : (j : Int) ≤ 1000 := by omega
    clear hO hF
    by_cases hlt : j < n
    · have j2 : (j : Int) < (n : Int) := by omega
      obtain ⟨g, off, rfl, -, hc⟩ := HXC.out (by omega)
      have hjl : j < xs.length := by have := HXL.out; omega
      have hcx := hc j hjl
      have e : xs.take (j + 1) = xs.take j ++ [xs[j]] := List.take_succ_eq_append_getElem hjl
      have hsn := cols_snoc z (xs.take j) xs[j]
      rw [← e, List.length_take, Nat.min_eq_left (by omega)] at hsn
      obtain ⟨X, hX⟩ : ∃ X, xs[j] = X := ⟨_, rfl⟩
      rw [hX] at hcx hsn
      obtain ⟨p, hp⟩ : ∃ p, j % z = p := ⟨_, rfl⟩
      have hpz : p < z := by rw [← hp]; exact Nat.mod_lt _ (by omega)
      have hpj : p ≤ j := by rw [← hp]; exact Nat.mod_le _ _
      have hmod : (j : Int) % (z : Int) = (p : Int) := by rw [← hp]; exact (Int.natCast_emod j z).symm
      have hmod2 : (j : Int).tmod (z : Int) = (p : Int) := by rw [Int.tmod_eq_emod_of_nonneg j0]; exact hmod
      rw [hp] at hsn
      obtain ⟨Ai, ni, ci, q, c0, c0f, hrow, hh, hq⟩ := HO.out.at hpz
      have hql : q.length = ni := by have := hrow.len; rw [opsV_len] at this; omega
      have hqc : q = col z p (xs.take j) := by
        obtain ⟨h1, h2⟩ := List.getElem?_eq_some_iff.1 hq
        rw [cols_at] at h2
        exact h2.symm
      have hnj : ni ≤ j := by
        rw [← hql, hqc]
        unfold col
        rw [List.length_map]
        refine Nat.le_trans (List.length_filter_le _ _) ?_
        rw [List.length_zipIdx, List.length_take]
        omega
      obtain ⟨h63, hby⟩ : ni + 1 ≤ maxLen ∧ (ni + 1) * 48 ≤ 140737488355328 := by unfold maxLen; omega
      have HSN := Lib.hid hsn
      have HQ := Lib.hid hq
      have HH := Lib.hid hh
      have HQC := Lib.hid hqc
      have SR := Lib.hid hrow
      have hB : w.heap.size ≤ wr.heap.size := F.out.size
      have HB := Lib.hid hB
      have hnb : ¬ blk Ai w.heap.size := by
        obtain ⟨h1, h2⟩ := List.getElem?_eq_some_iff.1 hh
        have := HO.out.dA p h1 w.heap.size
        rw [h2] at this
        exact fun h => this h ((blk_some _ _ _).2 rfl)
      have HNB := Lib.hid hnb
      have hbw : w.heap.size < wr.heap.size := World.block_lt_of_cell? wr _ c0
      have hbn : w.heap.size ≠ wr.heap.size := by omega
      obtain ⟨xk, xa, xo, xt, xfl, xfa, xg⟩ := X
      have x0 : wr.cell? ⟨g, off + j * 7, none⟩ = some (.int .u8 xk) := F.out.cell (hcx 0 _ rfl) id
      have x1 : wr.cell? ⟨g, off + j * 7 + 1, none⟩ = some (.int .i64 xa) := F.out.cell (hcx 1 _ rfl) id
      have x2 : wr.cell? ⟨g, off + j * 7 + 2, none⟩ = some (.int .i64 xo) := F.out.cell (hcx 2 _ rfl) id
      have x3 : wr.cell? ⟨g, off + j * 7 + 3, none⟩ = some (.int .i64 xt) := F.out.cell (hcx 3 _ rfl) id
      have x4 : wr.cell? ⟨g, off + j * 7 + 4, none⟩ = some (.bool xfl) := F.out.cell (hcx 4 _ rfl) id
      have x5 : wr.cell? ⟨g, off + j * 7 + 5, none⟩ = some (.bool xfa) := F.out.cell (hcx 5 _ rfl) id
      have x6 : wr.cell? ⟨g, off + j * 7 + 6, none⟩ = some (.int .i64 xg) := F.out.cell (hcx 6 _ rfl) id
      have c0' : wr.cell? ⟨w.heap.size, p, none⟩ = some (.slice Ai ni ci) := by rw [← Nat.zero_add p]; exact c0
      have c0f' : wr.frozen? ⟨w.heap.size, p, none⟩ = false := by rw [← Nat.zero_add p]; exact c0f
      clear hc hcx hsn hX hp hrow hh hq hqc hql hB hnb c0 c0f e hnj
      have hzne : ¬ z = 0 := by omega
      have p0 : (0 : Int) ≤ (p : Int) := by omega
      have p1 : (p : Int) < (z : Int) := by omega
      go_upto_region 8 with fail
      go_region_law (refine step_append_sl _ rfl (.tmp 31) (.tmp 33) 39 rfl w.heap.size 50 i50 _ 7 48 Tryd.underlying39 ji jz0 jz1 jz2 rfl (by decide) Ai ni ci (opsV q) (by go_simp) (SR.out.new_ (by (repeat (first | exact Frm.refl _ _ | apply Frm.drew | apply Frm.alloc)))) (some ⟨wr.heap.size + 1, 0, none⟩) 1 1 (OpR.cs ⟨xk, xa, xo, xt, xfl, xfa, xg⟩) (by go_simp) (Rd.fresh_at _ 50 #[.int .u8 xk, .int .i64 xa, .int .i64 xo, .int .i64 xt, .bool xfl, .bool xfa, .int .i64 xg] rfl (by simp)) (OpR.cs_one ⟨xk, xa, xo, xt, xfl, xfa, xg⟩) h63 hby (Nat.le_trans HB.out (by simp; omega)) ?_; intro A' c' w3 hap; replace hap := Lib.hid hap; have d0 := hap.out.2.1.cell (Frm.cell (S := fun _ => False) (w := wr) (by (repeat (first | exact Frm.refl _ _ | apply Frm.drew | apply Frm.alloc))) c0' id) HNB.out; have d1 := (hap.out.2.1.frozen (p := ⟨w.heap.size, p, none⟩) (by simp; omega) HNB.out).trans ((Frm.frozen (S := fun _ => False) (w := wr) (p := ⟨w.heap.size, p, none⟩) (by (repeat (first | exact Frm.refl _ _ | apply Frm.drew | apply Frm.alloc))) hbw id).trans c0f'))
      all_goals
        try dsimp only [Act.put]
        go_wp2_with fail
        go_roundw
        case rel =>
          have hW1 : ∀ {W1 : World}, Frm wr W1 (fun _ => False) → Frm W1 w3 (blk Ai) → Frm w (w3.setCell ⟨w.heap.size, p, none⟩ (.slice A' (ni + 1) c')) fun _ => False := fun {W1} k1 k2 => by
            refine Frm.setCell (F.out.trans ((k1.none_ _).then_ k2) (fun q hq h => absurd (SR.out.ge h).1 (Nat.not_le.2 hq))) (fun h => absurd h (Nat.lt_irrefl _)) _
          refine ⟨j + 1, hs.set p ⟨A', ni + 1, c'⟩, by go_num, by omega, ?_, hW1 (by (repeat (first | exact Frm.refl _ _ | apply Frm.drew | apply Frm.alloc))) hap.out.2.1⟩
          rw [HSN.out, ← HQC.out]
          exact HO.out.dealt (by (repeat (first | exact Frm.refl _ _ | apply Frm.drew | apply Frm.alloc))) HH.out hap.out
        case measure => simp [intOf]; omega
    · obtain rfl : j = n := by omega
      have hl := HXL.out
      rw [List.take_of_length_le (by omega)] at HO
      clear hl hlt hj j0 j1 hn
      go_wp2_with fail
      go_loopw [39] (fun i wr => ∃ (k : Nat) (hs : List Hd), i = .int .i64 k ∧ k ≤ z ∧ OwD wr w.heap.size w.heap.size (some ⟨w.heap.size, 0, none⟩) z z hs (cols z xs) ∧ (∀ (i : Nat) h, i < k → hs[i]? = some h → h.n = h.c) ∧ Frm w wr fun _ => False) (fun i _ => z - (intOf i).toNat)
      case atStart => exact ⟨0, hs, rfl, Nat.zero_le _, HO.out, fun i h hi => absurd hi (Nat.not_lt_zero _), F.out⟩
      case round =>
        clear HO F
        obtain ⟨k, hs, rfl, hk, hO, hnc, hF⟩ := hrel
        have HO := Lib.hid hO
        have F := Lib.hid hF
        have HNC := Lib.hid hnc
        have k0 : (0 : Int) ≤ (k : Int) := by omega
        have k1 : (k : Int) ≤ (z : Int) := by omega
        clear hO hF hnc
        by_cases hlt : k < z
        · have k2 : (k : Int) < (z : Int) := by omega
          obtain ⟨Ai, ni, ci, q, c0, c0f, hrow, hh, hq⟩ := HO.out.at hlt
          have c0' : wr.cell? ⟨w.heap.size, k, none⟩ = some (.slice Ai ni ci) := by rw [← Nat.zero_add k]; exact c0
          have c0f' : wr.frozen? ⟨w.heap.size, k, none⟩ = false := by rw [← Nat.zero_add k]; exact c0f
          have hle := hrow.le
          have HH := Lib.hid hh
          have HQ := Lib.hid hq
          have SR := Lib.hid hrow
          have HLE := Lib.hid hle
          clear hrow hh hq c0 c0f hle
          go_wp2_with (go_at_call 70; refine (clip70 _ _ _ HLE.out _).mono ?_; rintro e w' ⟨rfl, rfl⟩)
          go_roundw
          case rel =>
            obtain ⟨h1, h2⟩ := List.getElem?_eq_some_iff.1 HH.out
            obtain ⟨h3, h4⟩ := List.getElem?_eq_some_iff.1 HQ.out
            have hput := HO.out.put (i := k) h1 (w2 := wr) (A' := Ai) (n' := ni) (c' := ni) (q := q) (SR.out.clip (Nat.le_refl _) HLE.out) (by rw [h2]; exact Frm.refl _ _) (by rw [h2]; exact fun k h => .inl h)
            rw [Nat.zero_add] at hput
            rw [← h4, List.set_getElem_self] at hput
            refine ⟨k + 1, hs.set k ⟨Ai, ni, ni⟩, by go_num, by omega, hput, fun i h hi hh => ?_, F.out.setCell (fun h => absurd h (Nat.lt_irrefl _)) _⟩
            by_cases hik : k = i
            · subst hik
              rw [List.getElem?_set_self h1] at hh
              injection hh with hh
              subst hh
              rfl
            · rw [List.getElem?_set_ne hik] at hh
              exact HNC.out i h (by omega) hh
          case measure => simp [intOf]; omega
        · obtain rfl : k = z := by omega
          clear hlt hk
          go_wp2_with fail
          go_ret
          refine ⟨w.heap.size, hs, rfl, HO.out, fun h hh => ?_, F.out⟩
          obtain ⟨i, hi, e⟩ := List.mem_iff_getElem.1 hh
          exact HNC.out i h (by rw [← HO.out.len]; exact hi) (by rw [List.getElem?_eq_getElem hi, e])
end Go.Proofs.YtmjpaaippilioaaDoor
