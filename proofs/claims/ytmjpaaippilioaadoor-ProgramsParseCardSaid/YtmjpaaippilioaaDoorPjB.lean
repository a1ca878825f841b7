import Derived.Test.YtmjpaaippilioaaDoorPhC
import Derived.Test.YtmjpaaippilioaaDoorPhV
import Derived.Laws.BytesArg
import Derived.OwnWalk
import Derived.Test.YtmjpaaippilioaaDoorPiE
import Derived.Test.YtmjpaaippilioaaDoorPiG
import Derived.Test.YtmjpaaippilioaaDoorPhW
import Derived.Test.YtmjpaaippilioaaDoorPgW
namespace Go.Proofs.YtmjpaaippilioaaDoor
open Go.RowKit

/-! What the law Parse needs beside the walks: bytes as a string; rows whose cells may be written. -/
theorem info38 : (Tryd.prog.info? 38).map (fun i => (i.zero, i.size, i.bytes)) = some (some (.slice none 0 0), 1, 24) := by kernel_rfl
theorem info5 : (Tryd.prog.info? 5).map (fun i => (i.zero, i.size, i.bytes)) = some (some (.int .u8 0), 1, 1) := by kernel_rfl
theorem KOk.col {l : List OpR} (h : KOk l) (z k : Nat) : KOk (YtmjpaaippilioaaDoor.col z k l) := fun x hx => by
  unfold YtmjpaaippilioaaDoor.col at hx
  obtain ⟨p, hp, rfl⟩ := List.mem_map.1 hx
  obtain ⟨hp, _⟩ := List.mem_filter.1 hp
  exact h p.1 (List.fst_mem_of_mem_zipIdx hp)
/-- The string of bytes. -/
def bstr (zs : List Nat) : ByteArray := strOfNums (zs.map fun (c : Nat) => (c : Int))
theorem conv_bz (A : Option Addr) (n c B : Nat) (zs : List Nat) (w : World) (h : Rd w B 1 A n (bz zs)) : (convert 38 9 (.slice A n c)).run Tryd.prog w = .ok (.string (bstr zs)) w := by
  have hlen : n = zs.length := by have := h.1; simp [bz] at this; omega
  by_cases h0 : n = 0
  · have hz : zs = [] := List.eq_nil_of_length_eq_zero (by omega)
    subst h0
    subst hz
    cases A with
    | none => exact run_convert_bytes_nil (P := Tryd.prog) w 38 5 Tryd.underlying38 Tryd.underlying5 0 c 9 Tryd.underlying9
    | some a =>
      rw [run_convert_bytes_string (P := Tryd.prog) w 38 9 5 _ 0 c Tryd.underlying38 Tryd.underlying5 Tryd.underlying9]
      exact run_bytesToString (P := Tryd.prog) w a 0 c [] (by simp [loadCells, loadCellsFrom])
  · obtain ⟨g, off, rfl, _, hc⟩ := h.2 (by rw [h.1]; omega)
    refine run_convert_bytes_arg (P := Tryd.prog) w 38 5 Tryd.underlying38 Tryd.underlying5 g off n c (zs.map fun (c : Nat) => (c : Int)) (by simp [hlen]) (fun i hi => hc i _ ?_) 9 Tryd.underlying9
    have hi2 : i < zs.length := by omega
    simp [bz, List.getElem?_eq_getElem hi2, List.getD]
/-- A row whose cells are there, and may be written. -/
structure Wr (w : World) (g off m : Nat) : Prop where
  cell : ∀ j, j < m → (w.cell? ⟨g, off + j, none⟩).isSome = true
  free : ∀ j, w.frozen? ⟨g, off + j, none⟩ = false
theorem Wr.set {w : World} {g off m : Nat} (h : Wr w g off m) (p : Addr) (u : Value) : Wr (w.setCell p u) g off m := by
  refine ⟨fun j hj => ?_, fun j => by rw [World.frozen?_setCell]; exact h.free j⟩
  have h1 := h.cell j hj
  by_cases e : (⟨g, off + j, none⟩ : Addr) = p
  · subst e
    obtain ⟨v, hv⟩ := Option.isSome_iff_exists.1 h1
    rw [World.cell?_setCell_same w _ _ hv]; rfl
  · rw [World.cell?_setCell_other _ _ _ _ (fun h => e h.symm)]; exact h1
theorem Wr.frm {w w' : World} {g off m : Nat} (h : Wr w g off m) (hg : g < w.heap.size) (k : Frm w w' fun _ => False) : Wr w' g off m :=
  ⟨fun j hj => by rw [k.keep (p := ⟨g, off + j, none⟩) hg id]; exact h.cell j hj, fun j => (k.frozen (p := ⟨g, off + j, none⟩) hg id).trans (h.free j)⟩
theorem Wr.at {w : World} {g off m : Nat} (h : Wr w g off m) {j : Nat} (hj : j < m) : ∃ v, w.cell? ⟨g, off + j, none⟩ = some v := Option.isSome_iff_exists.1 (h.cell j hj)
/-- The cells of a slice of the call's own. -/
theorem Sl.wr {w : World} {B size n c : Nat} {A : Option Addr} {xs : List Value} (h : Sl w B size A n c xs) (hn : 0 < c) : ∃ g off, A = some ⟨g, off, none⟩ ∧ B ≤ g ∧ g < w.heap.size ∧ Wr w g off (c * size) := by
  rcases h.row with ⟨_, h0⟩ | ⟨g, off, rfl, hB, hlt, _, hs, hf⟩
  · omega
  · exact ⟨g, off, rfl, hB, hlt, hs, hf⟩
end Go.Proofs.YtmjpaaippilioaaDoor
namespace Go.Proofs.YtmjpaaippilioaaDoor
open Go.RowKit

/-- Rows that were overwritten: those ahead of k. -/
def Done (hs : List Hd) (k : Nat) (b : Nat) : Prop := ∃ j h, j < k ∧ hs[j]? = some h ∧ blk h.A b
theorem Done.more {hs : List Hd} {k b : Nat} (h : Done hs k b) : Done hs (k + 1) b := by
  obtain ⟨j, h, hj, hh, hb⟩ := h
  exact ⟨j, h, Nat.lt_succ_of_lt hj, hh, hb⟩
theorem Done.this {hs : List Hd} {k b : Nat} {h : Hd} (hh : hs[k]? = some h) (hb : blk h.A b) : Done hs (k + 1) b := ⟨k, h, Nat.lt_succ_self k, hh, hb⟩
theorem Done.ge {w : World} {B C g z : Nat} {hs : List Hd} {qs : List (List OpR)} (h : OwD w B C (some ⟨g, 0, none⟩) z z hs qs) {k b : Nat} (hd : Done hs k b) : C ≤ b ∧ b < w.heap.size ∧ b ≠ g := by
  obtain ⟨j, x, _, hh, hb⟩ := hd
  obtain ⟨h1, rfl⟩ := List.getElem?_eq_some_iff.1 hh
  have h2 : j < qs.length := by rw [h.lenq, ← h.len]; exact h1
  have h3 := (h.row j h1 h2).ge hb
  refine ⟨h3.1, h3.2, fun e => ?_⟩
  subst e
  exact h.dA j h1 b hb ((blk_some _ _ _).2 rfl)
theorem Done.apart {w : World} {B C g z : Nat} {hs : List Hd} {qs : List (List OpR)} (h : OwD w B C (some ⟨g, 0, none⟩) z z hs qs) {k b : Nat} {x : Hd} (hx : hs[k]? = some x) (hb : blk x.A b) : ¬ Done hs k b := by
  rintro ⟨j, y, hj, hy, hyb⟩
  obtain ⟨h1, rfl⟩ := List.getElem?_eq_some_iff.1 hx
  obtain ⟨h2, rfl⟩ := List.getElem?_eq_some_iff.1 hy
  exact h.dj j k h2 h1 (by omega) b hyb hb
/-- The row behind a slice may be written. -/
def RowW (w : World) (A : Option Addr) (n : Nat) : Prop := ∀ g off, A = some ⟨g, off, none⟩ → Wr w g off (n * 7)
theorem RowW.of {w : World} {g off n : Nat} (h : Wr w g off (n * 7)) : RowW w (some ⟨g, off, none⟩) n := fun g' off' e => by
  injection e with e
  injection e with e1 e2
  subst e1 e2
  exact h
set_option maxRecDepth 100000 in
set_option maxHeartbeats 8000000 in
theorem parse_law (A : Option Addr) (n c : Nat) (zs : List Nat) (m : Int) (w : World) (h : T2 w) (hr : Rd w w.heap.size 1 A n (bz zs)) (hz : ∀ z ∈ zs, z ≤ 255) (hnc : n ≤ c) (hc : c ≤ maxLen) (hm1 : -9223372036854775808 ≤ m) (hm2 : m ≤ 9223372036854775807) :
    Calls Tryd.prog 12 #[.slice A n c, .int .i64 m] w fun e w' => e = .returned (.bool true) ∧ Frm w w' fun _ => False := by
  have H := Lib.hid h
  have HL := Lib.hid fun (v : World) (hv : Frm w v fun _ => False) => livesP_any v (H.out.new_ hv)
  by_cases hn : n ≤ 2000
  rotate_left
  · have hn' : (2000 : Int) < (n : Int) := by omega
    clear h hr hz hnc hc
    go_enter Tryd.func12, Tryd.ntmps12
    go_wp2_with (go_at_call 31; refine (HL.out _ (Frm.refl _ _)).mono ?_; rintro e w1 ⟨rfl, hf⟩)
    go_ret
    exact ⟨rfl, hf⟩
  have hn' : (n : Int) ≤ 2000 := by omega
  have n0 : (0 : Int) ≤ (n : Int) := by omega
  have hlen : n = zs.length := by have := hr.1; simp [bz] at this; omega
  obtain ⟨i5, ii, iz0, iz1, iz2⟩ := info_parts info5
  have HR := Lib.hid hr
  have HZ := Lib.hid hz
  have HNC := Lib.hid (And.intro hnc hc)
  have HLEN := Lib.hid hlen
  have one : ∀ u ∈ bz zs, u.oneCell' = true := by
    intro u hu
    obtain ⟨z, _, rfl⟩ := List.mem_map.1 hu
    rfl
  have ONE := Lib.hid one
  have hb1 : i5.bytes * (n + 1) ≤ 281474976710656 ∧ n + 1 ≤ maxLen := by rw [iz2]; unfold maxLen; omega
  have hb2 : 0 + n ≤ maxLen ∧ (0 + n) * 1 ≤ 140737488355328 := by unfold maxLen; omega
  have hb3 : n + 1 ≤ maxLen ∧ (n + 1) * 1 ≤ 140737488355328 := by unfold maxLen; omega
  have HB1 := Lib.hid hb1
  have HB2 := Lib.hid hb2
  have HB3 := Lib.hid hb3
  clear h hr hz hnc hc hlen one hb1 hb2 hb3
  go_enter Tryd.func12, Tryd.ntmps12
  go_upto_region 4 with (first
    | (at_make; refine wpList_make_own _ rfl _ (.tmp 18) 38 rfl w.heap.size 5 i5 _ 1 Tryd.underlying38 ii iz0 iz1 _ _ _ (n + 1) rfl rfl (by go_num) HB1.out.1 HB1.out.2 (Nat.le_refl _) ?_; intro w1 ho hg; have S1 := Lib.hid (Sl.of_owns ho); have F1 := Lib.hid (Frm.of_new hg fun _ => False); clear ho hg)
    | (at_builtin; refine wpList_append_sl _ rfl (.tmp 19) (.tmp 20) 38 rfl w.heap.size 5 i5 _ 1 1 Tryd.underlying38 ii iz0 iz1 iz2 rfl (by decide) _ _ _ _ rfl S1.out _ _ _ _ rfl (HR.out.new_ F1.out) ONE.out HB2.out.1 HB2.out.2 F1.out.size ?_; intro A1 c1 w2 hap; rw [List.nil_append] at hap; simp only [Nat.zero_add] at hap ⊢; have S2 := Lib.hid hap.1; have F2 := Lib.hid (F1.out.fresh hap.2.1 fun j hj => (S1.out.ge hj).1); clear hap)
    | (at_builtin; refine wpList_append_sl _ rfl (.tmp 21) (.tmp 22) 38 rfl w.heap.size 5 i5 _ 1 1 Tryd.underlying38 ii iz0 iz1 iz2 rfl (by decide) _ _ _ _ rfl (S2.out.alloc _) _ 1 1 [.int .u8 167] rfl (Rd.fresh_at _ 5 #[.int .u8 167] rfl rfl) (by intro u hu; rw [List.mem_singleton] at hu; subst hu; rfl) HB3.out.1 HB3.out.2 (Nat.le_trans F2.out.size (by simp)) ?_; intro A2 c2 w3 hap; obtain ⟨g, off, rfl, -⟩ := hap.1.form (by have := hap.1.le; omega); have hle := hap.1.le; have hle1 : (n : Int) + 1 ≤ (c2 : Int) := (by omega); have S3 := Lib.hid hap.1; have F3 := Lib.hid ((F2.out.alloc _).fresh hap.2.1 fun j hj => (S2.out.ge hj).1); clear hap))
  have hle := S3.out.le
  have hst := S3.out.short (m := n) (c := c2) (by omega) (by omega) (Nat.le_refl _)
  have e167 : (bz zs ++ [Value.int .u8 167]).take (n * 1) = bz zs := by
    have : (bz zs).length = n * 1 := by rw [HLEN.out]; simp [bz]
    rw [← this, List.take_left']
    rfl
  rw [e167] at hst
  have ST := Lib.hid hst
  have c167 : w3.cell? ⟨g, off + n, none⟩ = some (.int .u8 167) := by
    obtain ⟨g', off', e, -, -, hcell, -⟩ := S3.out.form (by omega)
    injection e with e
    injection e with e1 e2
    subst e1 e2
    refine hcell n _ ?_
    have : (bz zs).length = n := by rw [HLEN.out]; simp [bz]
    rw [List.getElem?_append_right (by omega), this, Nat.sub_self]
    rfl
  have HP := Lib.hid (parse_all (some ⟨g, off, none⟩) n c2 zs w3 ((H.out.new_ F3.out).t1) ST.out.rd HZ.out (by omega) (by omega) S3.out.max)
  have C167 := Lib.hid c167
  obtain ⟨xs, hxs⟩ : ∃ xs, parseL zs = xs := ⟨_, rfl⟩
  have hxl : xs.length = zs.length / 4 := by rw [← hxs, parseL_len]
  have hKO := parseL_ok zs
  obtain ⟨L, hL⟩ : ∃ L, zs.length / 4 = L := ⟨_, rfl⟩
  rw [hL] at hxl
  rw [hxs] at hKO
  rw [hxs, hL] at HP
  have HQ := Lib.hid fun v (hv : Frm w v fun _ => False) => parse_ref A n c zs v (HR.out.new_ hv) HZ.out (by omega)
  rw [hxs, hL] at HQ
  have HXL := Lib.hid hxl
  have HKO := Lib.hid hKO
  have hL500 : L ≤ 500 := by have := HLEN.out; omega
  have L0 : (0 : Int) ≤ (L : Int) := by omega
  have L1 : (L : Int) ≤ 500 := by omega
  clear hle hst e167 c167 hxs hxl hKO hL
  go_upto_region 5 with (go_at_call 39; refine HP.out.mono ?_; rintro e w4 ⟨Al, rfl, hSl, hf⟩; have SL := Lib.hid hSl; have F4 := Lib.hid hf; clear hSl hf)
  have F04 := Lib.hid (F3.out.then_ F4.out)
  go_upto_region 6 with (go_at_call 40; refine (HQ.out _ F04.out).mono ?_; rintro e w5 ⟨Am, cm, rfl, hSm, hf⟩; have SM := Lib.hid hSm; have F5 := Lib.hid hf; clear hSm hf)
  have F05 := Lib.hid (F04.out.then_ F5.out)
  have SL5 := Lib.hid (SL.out.new_ F5.out)
  have HSM := Lib.hid (same_any Al Am L cm xs w5 SL5.out.rd SM.out.rd HKO.out (by omega))
  have HCT := Lib.hid fun v (hv : Frm w5 v fun _ => False) => And.intro (conv_bz (some ⟨g, off, none⟩) n c2 _ zs v (ST.out.new_ ((F4.out.then_ F5.out).then_ hv)).rd) (And.intro (conv_bz A n c _ zs v (HR.out.new_ (F05.out.then_ hv))) (((F4.out.then_ F5.out).then_ hv).cell C167.out id))
  go_upto_region 8 with (go_at_call 41; refine HSM.out.mono ?_; rintro e w6 ⟨rfl, hf⟩; obtain ⟨k1, k2, k3⟩ := HCT.out _ hf; have F6 := Lib.hid hf; clear hf)
  have F06 := Lib.hid (F05.out.then_ F6.out)
  have SL6 := Lib.hid (SL5.out.new_ F6.out)
  have SM6 := Lib.hid (SM.out.new_ F6.out)
  have HB36 := Lib.hid (show w3.heap.size ≤ w4.heap.size from F4.out.size)
  have HB46 := Lib.hid (Nat.le_trans F5.out.size F6.out.size)
  clear k1 k2 k3 S1 F1 S2 F2 S3 F3 ST C167 HP HQ F4 F04 F5 F05 HSM HCT SL SM SL5 F6 HB1 HB2 HB3 ONE hle1
  have HSA := Lib.hid fun (v : World) (ha : Rd v v.heap.size 7 Al L (opsV xs)) (hb : Rd v v.heap.size 7 Am L (opsR xs)) => same_any Al Am L cm xs v ha hb HKO.out (by omega)
  by_cases hm : m < 1
  · have HS0 := Lib.hid (split_none Al L L m hm w6)
    have HY := Lib.hid (split_ref Am L cm m 0 (by omega) hm1 hm2 xs w6 SM6.out.rd (by omega))
    clear hm hm1 hm2
    go_wp2_with (first
      | (go_at_call 42; refine HS0.out.mono ?_; rintro e w7 ⟨rfl, rfl⟩)
      | (go_at_call 43; refine HY.out.mono ?_; rintro e w8 ⟨Ay, cy, hsy, rfl, hO, hf⟩; have F8 := Lib.hid hf; clear hO hf))
    go_loopw [10] (fun i wr => i = .int .i64 0 ∧ Frm w6 wr fun _ => False) (fun _ _ => 0)
    case atStart => exact ⟨rfl, F8.out⟩
    case round =>
      obtain ⟨rfl, hF⟩ := hrel
      have HA := Lib.hid (HSA.out wr (SL6.out.new_ hF).rd (SM6.out.new_ hF).rd)
      have F := Lib.hid hF
      clear hF
      go_wp2_with (first
        | (go_at_call 41; refine HA.out.mono ?_; rintro e w9 ⟨rfl, hf⟩; have F9 := Lib.hid (F06.out.then_ (F.out.then_ hf)); clear hf)
        | (go_at_call 31; refine (HL.out _ F9.out).mono ?_; rintro e wz ⟨rfl, hf⟩))
      go_ret
      exact ⟨rfl, F9.out.then_ hf⟩
  · obtain ⟨mn, rfl⟩ := Int.eq_ofNat_of_zero_le (show 0 ≤ m by omega)
    obtain ⟨z, hz⟩ : ∃ z, min mn 64 = z := ⟨_, rfl⟩
    have HX := Lib.hid (split_any Al L L mn (by omega) hm2 xs w6 SL6.out.rd (by omega))
    rw [hz] at HX
    have HY := Lib.hid fun (v : World) (hv : Frm w6 v fun _ => False) => split_ref Am L cm mn z (by omega) hm1 hm2 xs v (SM6.out.new_ hv).rd (by omega)
    have hz64 : z ≤ 64 := by omega
    have hz1 : 1 ≤ z := by omega
    have z0 : (0 : Int) ≤ (z : Int) := by omega
    have z1 : (z : Int) ≤ 64 := by omega
    have zz : ((z : Int) != (z : Int)) = false := by simp
    clear hm hm1 hm2 hz
    go_wp2_with (first
      | (go_at_call 42; refine HX.out.mono ?_; rintro e w7 ⟨gx, hs, rfl, hO, hnc, hf⟩; have OX := Lib.hid hO; have HNC := Lib.hid hnc; have F7 := Lib.hid hf; clear hO hf hnc)
      | (go_at_call 43; refine (HY.out _ F7.out).mono ?_; rintro e w8 ⟨Ay, cy, hsy, rfl, hO, hf⟩; have OY := Lib.hid hO; have F8 := Lib.hid hf; clear hO hf))
    have OX8 := Lib.hid (OX.out.new_ F8.out)
    have F08 := Lib.hid ((F06.out.then_ F7.out).then_ F8.out)
    have F68 := Lib.hid (F7.out.then_ F8.out)
    have HB6 := Lib.hid (show w6.heap.size ≤ w7.heap.size from F7.out.size)
    have HB06 := Lib.hid (show w.heap.size ≤ w6.heap.size from F06.out.size)
    have SL8 := Lib.hid (SL6.out.new_ F68.out)
    have SM8 := Lib.hid (SM6.out.new_ F68.out)
    clear zz
    go_loopw [10] (fun i wr => ∃ k : Nat, i = .int .i64 k ∧ k ≤ z ∧ Frm w8 wr (Done hs k)) (fun i _ => z - (intOf i).toNat)
    case atStart => exact ⟨0, rfl, Nat.zero_le _, Frm.refl _ _⟩
    case round =>
      obtain ⟨k, rfl, hk, hF⟩ := hrel
      have F := Lib.hid hF
      have k0 : (0 : Int) ≤ (k : Int) := by omega
      have k1 : (k : Int) ≤ (z : Int) := by omega
      clear hF
      by_cases hlt : k < z
      · have k2 : (k : Int) < (z : Int) := by omega
        obtain ⟨Ak, nk, ck, q, c0, -, hrow, hh, hq⟩ := OX8.out.at hlt
        have hnk : nk = ck := HNC.out ⟨Ak, nk, ck⟩ (List.mem_of_getElem? hh)
        subst hnk
        obtain ⟨gy, oy, rfl, hgy, -, -, -⟩ := OY.out.out.form (by have := OY.out.out.le; omega)
        obtain ⟨Bk, mk, dk, q', c1, -, hrowY, -, hq'⟩ := OY.out.at hlt
        rw [hq] at hq'
        injection hq' with hq'
        subst hq'
        have hmk : mk = nk := by
          have h1 := hrow.len
          have h2 := hrowY.len
          rw [opsV_len] at h1
          rw [opsR_len] at h2
          omega
        subst hmk
        have hqc : q = YtmjpaaippilioaaDoor.col z k xs := by
          obtain ⟨h1, h2⟩ := List.getElem?_eq_some_iff.1 hq
          rw [cols_at] at h2
          exact h2.symm
        have hKq : KOk q := by rw [hqc]; exact HKO.out.col z k
        have hmk : mk ≤ 500 := by
          have h1 := hrow.len
          rw [opsV_len, hqc] at h1
          have : (YtmjpaaippilioaaDoor.col z k xs).length ≤ L := by
            unfold YtmjpaaippilioaaDoor.col
            rw [List.length_map]
            refine Nat.le_trans (List.length_filter_le _ _) ?_
            rw [List.length_zipIdx, HXL.out]
            exact Nat.le_refl _
          omega
        have m0 : (0 : Int) ≤ (mk : Int) := by omega
        have m1 : (mk : Int) ≤ 500 := by omega
        have hgx : ¬ Done hs k gx := fun h => (Done.ge OX.out h).2.2 rfl
        have hgy' : ¬ Done hs k gy := fun h => by have := (Done.ge OX.out h).2.1; omega
        have hAk : ∀ b, blk Ak b → ¬ Done hs k b := fun b hb => Done.apart OX.out hh hb
        have hBk : ∀ b, blk Bk b → ¬ Done hs k b := fun b hb h => by have h1 := (Done.ge OX.out h).2.1; have h2 := (hrowY.ge hb).1; omega
        have hgA : ¬ blk Ak gx := by
          obtain ⟨h1, h2⟩ := List.getElem?_eq_some_iff.1 hh
          intro hb
          exact OX8.out.dA k h1 gx (by rw [h2]; exact hb) ((blk_some _ _ _).2 rfl)
        rw [Nat.zero_add] at c0
        have d0 : wr.cell? ⟨gx, k, none⟩ = some (.slice Ak mk mk) := F.out.cell c0 hgx
        have d1 : wr.cell? ⟨gy, oy + k, none⟩ = some (.slice Bk mk dk) := F.out.cell c1 hgy'
        have SX := Lib.hid (hrow.frm F.out hAk)
        have SY := Lib.hid (hrowY.frm F.out hBk)
        have HS := Lib.hid fun G : Grown wr => same_any Ak Bk mk dk q G.1 ((SX.out.new_ G.2).rd) ((SY.out.new_ G.2).rd) hKq (by omega)
        have D0 := Lib.hid d0
        have HH := Lib.hid hh
        have HGA := Lib.hid hgA
        clear hrow hrowY hq hqc hKq hmk hgx hgy' hAk hBk hgA c0 c1 hh hgy
        go_upto_region 15 with fail
        replace d0 := Grown.cell d0
        replace d1 := Grown.cell d1
        refine wp_region_grown wr (Frm.refl _ _) (by kernel_rfl) (by kernel_rfl) ?_
        repeat (go_big_quiet_step ((go_at_call 41; exact Calls.grown_of (HS.out _))))
        refine wpQuiet_nil ?_
        intro wq hq2
        have FQ := Lib.hid (F.out.then_ (hq2.none_ _))
        have DQ := Lib.hid (hq2.cell D0.out id)
        have SQ := Lib.hid (SX.out.new_ hq2)
        have hform : 0 < mk → ∃ g off, Ak = some ⟨g, off, none⟩ ∧ g < wq.heap.size := fun h => by
          obtain ⟨g, off, e, -, h1, -⟩ := SQ.out.wr h
          exact ⟨g, off, e, h1⟩
        have hroww : RowW wq Ak mk := fun g off e => by
          rcases SQ.out.row with ⟨h1, _⟩ | ⟨g', off', h1, _, _, _, h2, h3⟩
          · rw [h1] at e; cases e
          · rw [h1] at e
            injection e with e
            injection e with e1 e2
            subst e1 e2
            exact ⟨h2, h3⟩
        have HFO := Lib.hid hform
        have HRW := Lib.hid hroww
        clear hq2 d0 d1 hform hroww
        go_wp2_with fail
        go_loopw [11] (fun i wt => ∃ t : Nat, i = .int .i64 t ∧ t ≤ mk ∧ RowW wt Ak mk ∧ Frm wq wt (blk Ak)) (fun i _ => mk - (intOf i).toNat)
        case atStart => exact ⟨0, rfl, Nat.zero_le _, HRW.out, Frm.refl _ _⟩
        case round =>
          obtain ⟨t, rfl, ht, hR, hF2⟩ := hrel
          have F2 := Lib.hid hF2
          have R := Lib.hid hR
          have t0 : (0 : Int) ≤ (t : Int) := by omega
          have t1 : (t : Int) ≤ (mk : Int) := by omega
          have e0 : wr.cell? ⟨gx, k, none⟩ = some (.slice Ak mk mk) := F2.out.cell DQ.out HGA.out
          clear hF2 hR
          by_cases hlt2 : t < mk
          · have t2 : (t : Int) < (mk : Int) := by omega
            obtain ⟨ga, oa, rfl, hga⟩ := HFO.out (by omega)
            have W := R.out ga oa rfl
            have HW := Lib.hid W
            obtain ⟨v0, x0⟩ := W.at (j := t * 7) (by omega)
            obtain ⟨v1, x1⟩ := W.at (j := t * 7 + 1) (by omega)
            obtain ⟨v2, x2⟩ := W.at (j := t * 7 + 2) (by omega)
            obtain ⟨v3, x3⟩ := W.at (j := t * 7 + 3) (by omega)
            obtain ⟨v4, x4⟩ := W.at (j := t * 7 + 4) (by omega)
            obtain ⟨v5, x5⟩ := W.at (j := t * 7 + 5) (by omega)
            obtain ⟨v6, x6⟩ := W.at (j := t * 7 + 6) (by omega)
            have f0 := W.free (t * 7)
            have f1 := W.free (t * 7 + 1)
            have f2 := W.free (t * 7 + 2)
            have f3 := W.free (t * 7 + 3)
            have f4 := W.free (t * 7 + 4)
            have f5 := W.free (t * 7 + 5)
            have f6 := W.free (t * 7 + 6)
            simp only [← Nat.add_assoc] at x1 x2 x3 x4 x5 x6 f1 f2 f3 f4 f5 f6
            have hgax : ga ≠ gx := fun e => HGA.out ((blk_some _ _ _).2 e.symm)
            clear W
            go_wp2_with fail
            go_roundw
            case rel =>
              refine ⟨t + 1, by go_num, by omega, RowW.of ?_, ?_⟩
              · with_reducible refine Wr.set ?_ _ _
                with_reducible refine Wr.set ?_ _ _
                with_reducible refine Wr.set ?_ _ _
                with_reducible refine Wr.set ?_ _ _
                with_reducible refine Wr.set ?_ _ _
                with_reducible refine Wr.set ?_ _ _
                with_reducible refine Wr.set ?_ _ _
                exact HW.out
              · have hin : ∀ p : Addr, p.block = ga → (p.block < wq.heap.size → blk (some ⟨ga, oa, none⟩) p.block) := fun p e _ => (blk_some _ _ _).2 e
                with_reducible refine Frm.setCell ?_ (hin _ rfl) _
                with_reducible refine Frm.setCell ?_ (hin _ rfl) _
                with_reducible refine Frm.setCell ?_ (hin _ rfl) _
                with_reducible refine Frm.setCell ?_ (hin _ rfl) _
                with_reducible refine Frm.setCell ?_ (hin _ rfl) _
                with_reducible refine Frm.setCell ?_ (hin _ rfl) _
                with_reducible refine Frm.setCell ?_ (hin _ rfl) _
                exact F2.out
            case measure => simp [intOf]; omega
          · obtain rfl : t = mk := by omega
            go_wp2_with fail
            go_roundw
            case rel => exact ⟨k + 1, by go_num, by omega, (FQ.out.mono fun _ _ h => h.more).trans F2.out fun j _ hb => Done.this HH.out hb⟩
            case measure => simp [intOf]; omega
      · obtain rfl : k = z := by omega
        have hfr := F08.out.fresh F.out fun j hj => Nat.le_trans HB06.out (Done.ge OX.out hj).1
        have HA := Lib.hid (HSA.out wr (SL8.out.frm F.out fun b hb h => by have h1 := (Done.ge OX.out h).1; have h2 := (SL6.out.ge hb).2; omega).rd (SM8.out.frm F.out fun b hb h => by have h1 := (Done.ge OX.out h).1; have h2 := (SM6.out.ge hb).2; omega).rd)
        have FR := Lib.hid hfr
        clear hfr hlt
        go_wp2_with (first
          | (go_at_call 41; refine HA.out.mono ?_; rintro e w9 ⟨rfl, hf⟩; have F9 := Lib.hid (FR.out.then_ hf); clear hf)
          | (go_at_call 31; refine (HL.out _ F9.out).mono ?_; rintro e wz ⟨rfl, hf⟩))
        go_ret
        exact ⟨rfl, F9.out.then_ hf⟩
end Go.Proofs.YtmjpaaippilioaaDoor
