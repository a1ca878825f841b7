import Derived.Test.YtmjpaaippilioaaDoorPiB
import Derived.Test.YtmjpaaippilioaaDoorPhU
namespace Go.Proofs.YtmjpaaippilioaaDoor
open Go.RowKit

theorem tabR : ∀ k, k < 26 → isO (Ut k).word aOther = ((Ut k).other != 0) ∧ isO (Ut k).word aTicks = (Ut k).ticks ∧ isO (Ut k).word aFlag = !(Ut k).flag.toList.isEmpty ∧ ((Ut k).word.toList == [100, 111]) = (Ut k).fails ∧ argsO (Ut k).word = if 0 < (Ut k).args then (Ut k).args else 1 := by decide +kernel
theorem plainR_eq (x : OpR) (h0 : 0 ≤ x.k) (h1 : x.k < 26) : plainR x = plainO Ut x := by
  obtain ⟨xk, xa, xo, xt, xfl, xfa, xg⟩ := x
  simp only at h0 h1
  obtain ⟨k, rfl⟩ := Int.eq_ofNat_of_zero_le h0
  obtain ⟨t1, t2, t3, t4, t5⟩ := tabR k (by omega)
  have e : wordO ((k : Nat) : Int) = (Ut k).word := by unfold wordO; rw [if_pos ⟨h0, h1⟩, Int.toNat_natCast]
  simp only [plainR, plainO, plainU, e, t1, t2, t3, t4, t5, Int.toNat_natCast]
  congr 1
  · generalize (Ut k).flag.toList.isEmpty = E
    cases xfl <;> cases E <;> rfl
  · generalize (Ut k).fails = E
    cases xfa <;> cases E <;> rfl
  · by_cases h : 0 < (Ut k).args
    · simp [h]
    · simp [h]
/-! ### the document's Parse -/
def OpR.rcs (x : OpR) : List Value := [.int .i64 x.k, .int .i64 x.a, .int .i64 x.o, .int .i64 x.t, .bool x.fl, .bool x.fa, .int .i64 x.g]
theorem OpR.rcs_len (x : OpR) : x.rcs.length = 7 := rfl
theorem OpR.rcs_one (x : OpR) : ∀ u ∈ x.rcs, u.oneCell' = true := by
  intro u hu
  simp [OpR.rcs] at hu
  rcases hu with rfl | rfl | rfl | rfl | rfl | rfl | rfl <;> rfl
abbrev opsR (l : List OpR) : List Value := l.flatMap OpR.rcs
theorem opsR_len (l : List OpR) : (opsR l).length = l.length * 7 := flat_len OpR.rcs 7 OpR.rcs_len l
theorem opsR_snoc (l : List OpR) (o : OpR) : opsR (l ++ [o]) = opsR l ++ o.rcs := by simp [opsR, List.flatMap_append]
theorem rA : ∀ b : Nat, b < 256 → (IntKind.i64.wrap (b : Int)).tmod 26 = ((b % 26 : Nat) : Int) := by decide +kernel
theorem rB : ∀ b : Nat, b < 256 → (b : Int).tmod 8 = ((b % 8 : Nat) : Int) := by decide +kernel
theorem rC : ∀ b : Nat, b < 256 → (IntKind.i64.wrap ((b : Int) / 8)).tmod 8 = ((b / 8 % 8 : Nat) : Int) := by decide +kernel
theorem rE : ∀ b : Nat, b < 256 → ((IntKind.i64.wrap ((b : Int) / 64)).tmod 2 == 1) = (b / 64 % 2 == 1) := by decide +kernel
theorem rF : ∀ b : Nat, b < 256 → decide (128 ≤ (b : Int)) = (b / 128 == 1) := by decide +kernel
theorem info71 : (Tryd.prog.info? 71).map (fun i => (i.zero, i.size, i.bytes)) = some (some (.agg #[.int .i64 0, .int .i64 0, .int .i64 0, .int .i64 0, .bool false, .bool false, .int .i64 0]), 7, 48) := by kernel_rfl
set_option maxRecDepth 100000 in
set_option maxHeartbeats 4000000 in
theorem parse_ref (A : Option Addr) (n c : Nat) (zs : List Nat) (w : World) (hr : Rd w w.heap.size 1 A n (bz zs)) (hz : ∀ z ∈ zs, z ≤ 255) (hn : (n : Int) ≤ 3000) :
    Calls Tryd.prog 40 #[.slice A n c] w fun e w' => ∃ A' c', e = .returned (.slice A' (zs.length / 4) c') ∧ Sl w' w.heap.size 7 A' (zs.length / 4) c' (opsR (parseL zs)) ∧ Frm w w' fun _ => False := by
  obtain ⟨i71, hi, hz0, hz1, hz2⟩ := info_parts info71
  have hlen : n = zs.length := by have := hr.1; simp [bz] at this; omega
  have HR := Lib.hid hr
  have HZ := Lib.hid hz
  have HLN := Lib.hid hlen
  obtain ⟨L, hL⟩ : ∃ L, zs.length / 4 = L := ⟨_, rfl⟩
  rw [hL]
  have HL := Lib.hid hL
  have hL4 : L * 4 ≤ n := by omega
  have hL5 : n < L * 4 + 4 := by omega
  have HL4 := Lib.hid (And.intro hL4 hL5)
  clear hr hz hlen hL hL4 hL5
  go_enter Tryd.func40, Tryd.ntmps40
  go_wp2_with fail
  go_loopw [3, 4] (fun so i wr => ∃ (k : Nat) (Ao : Option Addr) (co : Nat), i = .int .i64 ((k * 4 : Nat) : Int) ∧ k ≤ L ∧ so = .slice Ao k co ∧ Sl wr w.heap.size 7 Ao k co (opsR ((parseL zs).take k)) ∧ Frm w wr fun _ => False) (fun _ i _ => n + 4 - (intOf i).toNat)
  case atStart => exact ⟨0, none, 0, rfl, Nat.zero_le _, rfl, Sl.nil _ _ _, Frm.refl _ _⟩
  case round =>
    obtain ⟨k, Ao, co, rfl, hk, rfl, hS, hF⟩ := hrel
    have S := Lib.hid hS
    have F := Lib.hid hF
    obtain ⟨p, hp⟩ : ∃ p, k * 4 = p := ⟨_, rfl⟩
    have HP := Lib.hid hp
    rw [hp]
    have hpn : p ≤ n := by have := HL4.out.1; omega
    have p0 : (0 : Int) ≤ (p : Int) := by omega
    have p1 : (p : Int) ≤ 3000 := by omega
    clear hS hF
    by_cases hlt : k < L
    · have hp4 : p + 4 ≤ n := by have := HL4.out.1; omega
      have hp4' : (p : Int) + 4 ≤ (n : Int) := by omega
      have i0 : (p : Int) < (n : Int) := by omega
      have i1 : (p : Int) + 1 < (n : Int) := by omega
      have i2 : (p : Int) + 2 < (n : Int) := by omega
      have i3 : (p : Int) + 3 < (n : Int) := by omega
      have i4 : (0 : Int) ≤ (p : Int) + 2 := by omega
      have i5 : (0 : Int) ≤ (p : Int) + 3 := by omega
      obtain ⟨g, off, rfl, -, hcell⟩ := HR.out.2 (by rw [HR.out.1]; omega)
      have hby : ∀ j, j < zs.length → wr.cell? ⟨g, off + j, none⟩ = some (.int .u8 ((zs.getD j 0 : Nat) : Int)) := fun j hj => F.out.cell (hcell j _ (by unfold bz; rw [List.getElem?_map, List.getElem?_eq_getElem hj, List.getD_eq_getElem?_getD, List.getElem?_eq_getElem hj]; rfl)) id
      have hle : ∀ j, j < zs.length → zs.getD j 0 ≤ 255 := fun j hj => by
        rw [List.getD_eq_getElem?_getD, List.getElem?_eq_getElem hj]
        exact HZ.out _ (List.getElem_mem hj)
      have hzl := HLN.out
      have hpk : (parseL zs).take (k + 1) = (parseL zs).take k ++ [parsedO (zs.getD (k * 4) 0) (zs.getD (k * 4 + 1) 0) (zs.getD (k * 4 + 2) 0) (zs.getD (k * 4 + 3) 0)] := by
        rw [List.take_succ_eq_append_getElem (by rw [parseL_len, HL.out]; exact hlt)]
        congr 1
        unfold parseL
        rw [List.getElem_map, List.getElem_range]
      rw [hp] at hpk
      have c0 := hby p (by omega)
      have c1 := hby (p + 1) (by omega)
      have c2 := hby (p + 2) (by omega)
      have c3 := hby (p + 3) (by omega)
      have q0 := hle p (by omega)
      have q1 := hle (p + 1) (by omega)
      have q2 := hle (p + 2) (by omega)
      have q3 := hle (p + 3) (by omega)
      obtain ⟨b0, e0⟩ : ∃ b, zs.getD p 0 = b := ⟨_, rfl⟩
      obtain ⟨b1, e1⟩ : ∃ b, zs.getD (p + 1) 0 = b := ⟨_, rfl⟩
      obtain ⟨b2, e2⟩ : ∃ b, zs.getD (p + 2) 0 = b := ⟨_, rfl⟩
      obtain ⟨b3, e3⟩ : ∃ b, zs.getD (p + 3) 0 = b := ⟨_, rfl⟩
      rw [e0] at c0 q0 hpk
      rw [e1] at c1 q1 hpk
      rw [e2] at c2 q2 hpk
      rw [e3] at c3 q3 hpk
      have hx : parsedO b0 b1 b2 b3 = plainR (rawO b0 b1 b2 b3) := (plainR_eq (rawO b0 b1 b2 b3) (show (0 : Int) ≤ ((b0 % 26 : Nat) : Int) by omega) (show ((b0 % 26 : Nat) : Int) < 26 by omega)).symm
      rw [hx] at hpk
      have HPK := Lib.hid hpk
      have HPL := Lib.hid fun v => plain_ref (rawO b0 b1 b2 b3) (show (0 : Int) ≤ ((b3 : Nat) : Int) by omega) (show ((b3 : Nat) : Int) ≤ 255 by omega) v
      have z0 : (0 : Int) ≤ (b0 : Int) := by omega
      have z1 : (b0 : Int) ≤ 255 := by omega
      have z2 : (0 : Int) ≤ (b1 : Int) := by omega
      have z3 : (b1 : Int) ≤ 255 := by omega
      have z4 : (0 : Int) ≤ (b2 : Int) := by omega
      have z5 : (b2 : Int) ≤ 255 := by omega
      have z6 : (0 : Int) ≤ (b3 : Int) := by omega
      have z7 : (b3 : Int) ≤ 255 := by omega
      have hgw : g < wr.heap.size := World.block_lt_of_cell? wr _ c0
      have hgn : g ≠ wr.heap.size := by omega
      obtain ⟨h63, hbb⟩ : k + 1 ≤ maxLen ∧ (k + 1) * 48 ≤ 140737488355328 := by unfold maxLen; omega
      clear hcell hby hle hpk hx e0 e1 e2 e3 hp q0 q1 q2 q3 hzl
      go_upto_region 6 with fail
      have w2 : IntKind.i64.wrap ((p : Int) + 2) = (p : Int) + 2 := IntWalk.i64_in _ (by omega)
      have w3 : IntKind.i64.wrap ((p : Int) + 3) = (p : Int) + 3 := IntWalk.i64_in _ (by omega)
      have n2 : ((p : Int) + 2).toNat = p + 2 := by omega
      have n3 : ((p : Int) + 3).toNat = p + 3 := by omega
      go_region_held3 (fun w' => w'.cell? ⟨g, off + p, none⟩ = some (.int .u8 (b0 : Int)) ∧ w'.cell? ⟨g, off + (p + 1), none⟩ = some (.int .u8 (b1 : Int)) ∧ w'.cell? ⟨g, off + (p + 2), none⟩ = some (.int .u8 (b2 : Int)) ∧ w'.cell? ⟨g, off + (p + 3), none⟩ = some (.int .u8 (b3 : Int))) (first | assumption | go_keep | (refine ⟨?_, ?_, ?_, ?_⟩ <;> first | assumption | go_keep)) (first | fail | fail)
      rw [rA b0 (by omega), rB b1 (by omega), rC b1 (by omega), wb b2 (by omega), rE b1 (by omega), rF b1 (by omega), wb b3 (by omega)]
      go_upto_region 7 with fail
      refine at_world' ?_
      intro V hV
      have hG : Frm wr V fun _ => False := by rw [hV]; exact ((Frm.refl _ _).alloc _).drew
      obtain ⟨v0, hv0⟩ : ∃ v : Int, ((b0 % 26 : Nat) : Int) = v := ⟨_, rfl⟩
      obtain ⟨v1, hv1⟩ : ∃ v : Int, ((b1 % 8 : Nat) : Int) = v := ⟨_, rfl⟩
      obtain ⟨v2, hv2⟩ : ∃ v : Int, ((b1 / 8 % 8 : Nat) : Int) = v := ⟨_, rfl⟩
      obtain ⟨v4, hv4⟩ : ∃ v : Bool, (b1 / 64 % 2 == 1) = v := ⟨_, rfl⟩
      obtain ⟨v5, hv5⟩ : ∃ v : Bool, (b1 / 128 == 1) = v := ⟨_, rfl⟩
      rw [hv0, hv1, hv2, hv4, hv5] at hV ⊢
      have hraw : rawO b0 b1 b2 b3 = ⟨v0, v1, v2, if b2 = 255 then -1 else (b2 : Int), v4, v5, (b3 : Int)⟩ := by unfold rawO; rw [hv0, hv1, hv2, hv4, hv5]
      rw [hraw] at HPL HPK
      have r0 : V.cell? ⟨wr.heap.size, 0, none⟩ = some (.int .i64 v0) := by subst hV; go_simp
      have r1 : V.cell? ⟨wr.heap.size, 1, none⟩ = some (.int .i64 v1) := by subst hV; go_simp
      have r2 : V.cell? ⟨wr.heap.size, 2, none⟩ = some (.int .i64 v2) := by subst hV; go_simp
      have r3 : V.cell? ⟨wr.heap.size, 3, none⟩ = some (.int .i64 b2) := by subst hV; go_simp
      have r4 : V.cell? ⟨wr.heap.size, 4, none⟩ = some (.bool v4) := by subst hV; go_simp
      have r5 : V.cell? ⟨wr.heap.size, 5, none⟩ = some (.bool v5) := by subst hV; go_simp
      have r6 : V.cell? ⟨wr.heap.size, 6, none⟩ = some (.int .i64 b3) := by subst hV; go_simp
      have rf3 : V.frozen? ⟨wr.heap.size, 3, none⟩ = false := by subst hV; go_simp
      have SV := Lib.hid (S.out.new_ hG)
      have FV := Lib.hid (F.out.then_ hG)
      have hnw : ¬ wr.heap.size < wr.heap.size := Nat.lt_irrefl _
      have HBV := Lib.hid (show w.heap.size ≤ wr.heap.size from F.out.size)
      have HGV := Lib.hid hG
      obtain ⟨X, hX⟩ : ∃ X, plainR ⟨v0, v1, v2, if b2 = 255 then -1 else (b2 : Int), v4, v5, (b3 : Int)⟩ = X := ⟨_, rfl⟩
      simp only [hX] at HPL HPK
      clear hV hG hv0 hv1 hv2 hv4 hv5 hraw c0 c1 c2 c3 w2 w3 n2 n3 hX hgw hgn i1 i2 i3 i4 i5
      obtain ⟨xk, xa, xo, xt, xfl, xfa, xg⟩ := X
      by_cases h255 : b2 = 255
      · have e1 : ((b2 : Int) == 255) = true := by simp; omega
        rw [if_pos h255] at HPL
        clear h255
        go_wp2_with (first
          | (go_at_call 71; refine (HPL.out _).mono ?_; rintro e w4 ⟨rfl, hf⟩)
          | (at_builtin; refine wpList_append_sl _ rfl (.tmp 54) (.tmp 57) 43 rfl w.heap.size 71 i71 _ 7 48 Tryd.underlying43 hi hz0 hz1 hz2 rfl (by decide) _ _ _ _ rfl (((SV.out.frm ((Frm.refl _ fun q => q = wr.heap.size).setCell (p := ⟨wr.heap.size, 3, none⟩) (fun _ => rfl) _) (fun q hq h => by have := (S.out.ge hq).2; omega)).new_ hf |>.alloc _)) _ 1 1 _ rfl (Rd.fresh_at _ 71 _ rfl (by simp)) (OpR.rcs_one ⟨xk, xa, xo, xt, xfl, xfa, xg⟩) h63 hbb (Nat.le_trans HBV.out (Nat.le_trans HGV.out.size (Nat.le_trans (by simp [World.setCell]) (Nat.le_trans hf.size (by simp))))) ?_; intro A3 c3 w5 hap; replace hap := Lib.hid hap))
        go_roundw
        case rel =>
          have hs5 := hap.out.1
          refine ⟨k + 1, A3, c3, by have := HP.out; rw [Nat.add_mul, this]; go_num, by omega, rfl, ?_, (((FV.out.setCell (p := ⟨wr.heap.size, 3, none⟩) (fun h => absurd h (Nat.not_lt.2 HBV.out)) _).then_ hf).alloc _).trans hap.out.2.1 (fun q hq h => absurd (S.out.ge h).1 (by omega))⟩
          rw [HPK.out, opsR_snoc]
          exact hs5
        case measure => simp [intOf]; omega
      · have e1 : ((b2 : Int) == 255) = false := by simp; omega
        rw [if_neg h255] at HPL
        clear h255
        go_wp2_with (first
          | (go_at_call 71; refine (HPL.out _).mono ?_; rintro e w4 ⟨rfl, hf⟩)
          | (at_builtin; refine wpList_append_sl _ rfl (.tmp 54) (.tmp 57) 43 rfl w.heap.size 71 i71 _ 7 48 Tryd.underlying43 hi hz0 hz1 hz2 rfl (by decide) _ _ _ _ rfl (((SV.out.new_ hf).alloc _)) _ 1 1 _ rfl (Rd.fresh_at _ 71 _ rfl (by simp)) (OpR.rcs_one ⟨xk, xa, xo, xt, xfl, xfa, xg⟩) h63 hbb (Nat.le_trans HBV.out (Nat.le_trans HGV.out.size (Nat.le_trans hf.size (by simp)))) ?_; intro A3 c3 w5 hap; replace hap := Lib.hid hap))
        go_roundw
        case rel =>
          have hs5 := hap.out.1
          refine ⟨k + 1, A3, c3, by have := HP.out; rw [Nat.add_mul, this]; go_num, by omega, rfl, ?_, ((FV.out.then_ hf).alloc _).trans hap.out.2.1 (fun q hq h => absurd (S.out.ge h).1 (by omega))⟩
          rw [HPK.out, opsR_snoc]
          exact hs5
        case measure => simp [intOf]; omega
    · have hp4' : (n : Int) < (p : Int) + 4 := by have := HL4.out.2; omega
      obtain rfl : k = L := by omega
      go_wp2_with fail
      go_ret
      refine ⟨Ao, co, rfl, ?_, F.out⟩
      have := S.out
      rw [List.take_of_length_le (by rw [parseL_len, HL.out]; exact Nat.le_refl _)] at this
      exact this
end Go.Proofs.YtmjpaaippilioaaDoor
