import Derived.Test.YtmjpaaippilioaaDoorPkA
namespace Go.Proofs.YtmjpaaippilioaaDoor
open Go.RowKit

/-! ### the document's text of an operation: the walk -/
theorem digits_int (z : Int) (h0 : 0 ≤ z) (h1 : z < 256) (w : World) : Calls Tryd.prog 78 #[.int .i64 z] w fun e w' => e = .returned (.string (dec z)) ∧ w = w' := by
  obtain ⟨n, rfl⟩ := Int.eq_ofNat_of_zero_le h0
  exact digits_ref n (by omega) w
theorem dec_size (n : Int) (h0 : -1 ≤ n) (h1 : n < 256) : (dec n).size ≤ 20 := by
  have := dec_few n h0 h1
  rw [Array.length_toList] at this
  exact this
theorem text_tab : ∀ k, k < 26 → ((Ut k).word.toList == [100, 111]) = decide (k = 20) ∧ decide (1 < argsO (Ut k).word) = decide (0 < (Ut k).args) ∧ ((Ut k).flag.toList.isEmpty = false → bytesOf' (Ut k).flag = if k = 20 then [102, 111, 114, 99, 101] else [102, 97, 105, 114]) := by decide +kernel
theorem may_flag {x : OpR} (h : mayO Ut x = true) (hf : x.fl = true) : (Ut x.k.toNat).flag.toList.isEmpty = false := by
  unfold mayO at h
  simp only [Bool.and_eq_true] at h
  have h1 := (opEq_iff _ _).1 h.2.2.2.2.2
  have h2 : (plainO Ut x).fl = x.fl := by rw [h1]
  have h3 : (x.fl && !(Ut x.k.toNat).flag.toList.isEmpty) = x.fl := h2
  rw [hf] at h3
  simpa using h3
theorem may_all {x : OpR} (h : mayO Ut x = true) : x.k < 26 ∧ (0 ≤ x.a ∧ x.a < 8) ∧ (0 ≤ x.o ∧ x.o < 8) ∧ (-1 ≤ x.t ∧ x.t < 255) ∧ 0 ≤ x.g ∧ x.g < 256 := by
  unfold mayO at h
  simp only [Bool.and_eq_true, decide_eq_true_eq] at h
  obtain ⟨h1, ⟨h2, h3⟩, ⟨h4, h5⟩, ⟨h6, h7⟩, ⟨h8, h9⟩, -⟩ := h
  exact ⟨h1, ⟨h2, h3⟩, ⟨h4, h5⟩, ⟨h6, h7⟩, h8, h9⟩
theorem bytes_app (a b : ByteArray) : bytesOf' (a ++ b) = bytesOf' a ++ bytesOf' b := by
  unfold bytesOf'
  rw [ByteArray.data_append, Array.toList_append]
theorem bytes_inj {a b : ByteArray} (h : bytesOf' a = bytesOf' b) : a = b := by
  unfold bytesOf' at h
  exact ByteArray.ext (Array.toList_inj.1 h)
theorem ret_str {a b : ByteArray} (h : b = a) : Ending.returned (Value.string a) = Ending.returned (Value.string b) := by rw [h]
/-- A string's bytes, and that they are not many. -/
def Txt (s : Value) (l : List UInt8) (m : Nat) : Prop := ∃ S : ByteArray, s = .string S ∧ bytesOf' S = l ∧ S.size ≤ m
set_option maxRecDepth 100000 in
set_option maxHeartbeats 8000000 in
theorem text_ref (x : OpR) (h0 : 0 ≤ x.k) (w : World) : Calls Tryd.prog 49 #[x.RV] w fun e w' => e = .returned (.string (textO x)) ∧ Frm w w' fun _ => False := by
  have HMY := Lib.hid fun v => may_ref x h0 v
  cases hm : mayO Ut x with
  | false =>
    have htx : textO x = ⟨#[63]⟩ := by unfold textO; rw [hm]; rfl
    rw [htx]
    simp only [hm] at HMY
    obtain ⟨xk, xa, xo, xt, xfl, xfa, xg⟩ := x
    clear h0 hm htx
    go_enter Tryd.func49, Tryd.ntmps49
    go_upto_region 1 with fail
    refine at_world' ?_
    intro W hW
    have hF : Frm w W fun _ => False := by rw [hW]; exact (Frm.refl _ _).alloc _
    have p0 : W.cell? ⟨w.heap.size, 0, none⟩ = some (.int .i64 xk) := by subst hW; go_simp
    have p1 : W.cell? ⟨w.heap.size, 1, none⟩ = some (.int .i64 xa) := by subst hW; go_simp
    have p2 : W.cell? ⟨w.heap.size, 2, none⟩ = some (.int .i64 xo) := by subst hW; go_simp
    have p3 : W.cell? ⟨w.heap.size, 3, none⟩ = some (.int .i64 xt) := by subst hW; go_simp
    have p4 : W.cell? ⟨w.heap.size, 4, none⟩ = some (.bool xfl) := by subst hW; go_simp
    have p5 : W.cell? ⟨w.heap.size, 5, none⟩ = some (.bool xfa) := by subst hW; go_simp
    have p6 : W.cell? ⟨w.heap.size, 6, none⟩ = some (.int .i64 xg) := by subst hW; go_simp
    clear hW
    go_wp2_with (go_at_call 47; refine (HMY.out _).mono ?_; rintro e W1 ⟨rfl, hf⟩)
    go_ret
    exact ⟨rfl, hF.then_ hf⟩
  | true =>
    obtain ⟨h26, ⟨a0, a1⟩, ⟨o0, o1⟩, ⟨t0, t1⟩, g0, g1⟩ := may_all hm
    have hfl := fun h => may_flag hm h
    obtain ⟨k, hk⟩ : ∃ k : Nat, x.k = (k : Int) := ⟨x.k.toNat, (Int.toNat_of_nonneg h0).symm⟩
    have hk26 : k < 26 := by omega
    have htx : bytesOf' (textO x) = textL x := by
      unfold textO
      rw [hm, if_pos rfl, textL_eq]
      simp [bytesOf']
    unfold textL at htx
    rw [hk, Int.toNat_natCast] at htx hfl
    simp only [hm] at HMY
    have hw : wordO x.k = (Ut k).word := by unfold wordO; rw [if_pos ⟨h0, h26⟩, hk, Int.toNat_natCast]
    have HWR := Lib.hid fun v => word_ref x.k v
    simp only [hw] at HWR
    have hTs : (Ut k).word.size ≤ 9 := by
      have h : ∀ k, k < 26 → (Ut k).word.size ≤ 9 := by decide +kernel
      exact h k hk26
    have HAR := Lib.hid fun v => args_ref (Ut k).word (by omega) v
    obtain ⟨e17, e25⟩ := other_tab k hk26
    obtain ⟨e20, eA, eF⟩ := text_tab k hk26
    have n17 : ((k : Int) == 17) = decide (k = 17) := by rw [Bool.eq_iff_iff]; simp; omega
    have n25 : ((k : Int) == 25) = decide (k = 25) := by rw [Bool.eq_iff_iff]; simp; omega
    rw [n17, n25] at htx
    have eF2 : x.fl = true → bytesOf' (Ut k).flag = if decide (k = 20) = true then [102, 111, 114, 99, 101] else [102, 97, 105, 114] := fun h => by
      rw [eF (hfl h)]
      by_cases h20 : k = 20 <;> simp [h20]
    obtain ⟨G, hG⟩ : ∃ G, bytesOf' (Ut k).flag = G := ⟨_, rfl⟩
    rw [hG] at htx eF2
    obtain ⟨T, hT⟩ : ∃ T, (Ut k).word = T := ⟨_, rfl⟩
    rw [hT] at HWR HAR hTs e17 e25 e20 eA htx
    obtain ⟨AR, hAR⟩ : ∃ a, argsO T = a := ⟨_, rfl⟩
    rw [hAR] at eA
    simp only [hAR] at HAR
    obtain ⟨bA, hbA⟩ : ∃ b, decide (0 < (Ut k).args) = b := ⟨_, rfl⟩
    rw [hbA] at htx eA
    obtain ⟨b17, h17⟩ : ∃ b, decide (k = 17) = b := ⟨_, rfl⟩
    obtain ⟨b25, h25⟩ : ∃ b, decide (k = 25) = b := ⟨_, rfl⟩
    obtain ⟨b20, h20⟩ : ∃ b, decide (k = 20) = b := ⟨_, rfl⟩
    rw [h17] at htx e17
    rw [h25] at htx e25
    rw [h20] at e20 eF2
    obtain ⟨R, hR⟩ : ∃ R, textO x = R := ⟨_, rfl⟩
    rw [hR] at htx ⊢
    obtain ⟨xk, xa, xo, xt, xfl, xfa, xg⟩ := x
    simp only at htx eF2 a0 a1 o0 o1 t0 t1 g0 g1 hk HWR
    obtain ⟨bt, hbt⟩ : ∃ b, decide (0 ≤ xt) = b := ⟨_, rfl⟩
    rw [hbt] at htx
    have et : decide (-1 < xt) = bt := by rw [← hbt, decide_eq_decide]; omega
    have HDA := Lib.hid fun v => digits_int xa a0 (by omega) v
    have HDO := Lib.hid fun v => digits_int xo o0 (by omega) v
    have HDT := Lib.hid fun (h : bt = true) v => digits_int xt (by rw [← hbt, decide_eq_true_eq] at h; exact h) (by omega) v
    have HDG := Lib.hid fun v => digits_int xg g0 g1 v
    have sa := dec_size xa (by omega) (by omega)
    have so := dec_size xo (by omega) (by omega)
    have st := dec_size xt (by omega) (by omega)
    have sg := dec_size xg (by omega) (by omega)
    have ba := dec_bytes xa
    have bo := dec_bytes xo
    have bt' := dec_bytes xt
    have bg := dec_bytes xg
    rw [← ba, ← bo, ← bt', ← bg] at htx
    obtain ⟨Da, hDa⟩ : ∃ D, dec xa = D := ⟨_, rfl⟩
    obtain ⟨Do, hDo⟩ : ∃ D, dec xo = D := ⟨_, rfl⟩
    obtain ⟨Dt, hDt⟩ : ∃ D, dec xt = D := ⟨_, rfl⟩
    obtain ⟨Dg, hDg⟩ : ∃ D, dec xg = D := ⟨_, rfl⟩
    rw [hDa] at htx sa
    rw [hDo] at htx so
    rw [hDt] at htx st
    rw [hDg] at htx sg
    simp only [hDa] at HDA
    simp only [hDo] at HDO
    simp only [hDt] at HDT
    simp only [hDg] at HDG
    obtain ⟨L0, hL0⟩ : ∃ l, bytesOf' T ++ [32] ++ bytesOf' Da = l := ⟨_, rfl⟩
    rw [hL0] at htx
    obtain ⟨L1, hL1⟩ : ∃ l, L0 ++ opt b17 ([32, 111, 102, 32] ++ bytesOf' Do) = l := ⟨_, rfl⟩
    rw [hL1] at htx
    obtain ⟨L2, hL2⟩ : ∃ l, L1 ++ opt b25 ([32, 116, 111, 32] ++ bytesOf' Do) = l := ⟨_, rfl⟩
    rw [hL2] at htx
    obtain ⟨L3, hL3⟩ : ∃ l, L2 ++ opt bt ([32, 105, 110, 32] ++ bytesOf' Dt) = l := ⟨_, rfl⟩
    rw [hL3] at htx
    have HX := Lib.hid htx
    have HL0 := Lib.hid hL0
    have HL1 := Lib.hid hL1
    have HL2 := Lib.hid hL2
    have HL3 := Lib.hid hL3
    have HEF := Lib.hid eF2
    subst hk
    clear h0 hm h26 a0 a1 o0 o1 t0 t1 g0 g1 hfl hk26 htx hw n17 n25 eF eF2 hG hT hAR hbA h17 h25 h20 hR hbt ba bo bt' bg hDa hDo hDt hDg hL0 hL1 hL2 hL3
    go_enter Tryd.func49, Tryd.ntmps49
    go_upto_region 1 with fail
    refine at_world' ?_
    intro W hW
    have hF : Frm w W fun _ => False := by rw [hW]; exact (Frm.refl _ _).alloc _
    have p0 : W.cell? ⟨w.heap.size, 0, none⟩ = some (.int .i64 (k : Int)) := by subst hW; go_simp
    have p1 : W.cell? ⟨w.heap.size, 1, none⟩ = some (.int .i64 xa) := by subst hW; go_simp
    have p2 : W.cell? ⟨w.heap.size, 2, none⟩ = some (.int .i64 xo) := by subst hW; go_simp
    have p3 : W.cell? ⟨w.heap.size, 3, none⟩ = some (.int .i64 xt) := by subst hW; go_simp
    have p4 : W.cell? ⟨w.heap.size, 4, none⟩ = some (.bool xfl) := by subst hW; go_simp
    have p5 : W.cell? ⟨w.heap.size, 5, none⟩ = some (.bool xfa) := by subst hW; go_simp
    have p6 : W.cell? ⟨w.heap.size, 6, none⟩ = some (.int .i64 xg) := by subst hW; go_simp
    obtain ⟨bx, hbx⟩ : ∃ b, w.heap.size = b := ⟨_, rfl⟩
    rw [hbx] at p0 p1 p2 p3 p4 p5 p6 ⊢
    clear hW hbx
    go_upto_if 18 with (first
      | (go_at_call 47; refine (HMY.out _).mono ?_; rintro e W1 ⟨rfl, hf⟩; replace p0 := hf.cell p0 id; replace p1 := hf.cell p1 id; replace p2 := hf.cell p2 id; replace p3 := hf.cell p3 id; replace p4 := hf.cell p4 id; replace p5 := hf.cell p5 id; replace p6 := hf.cell p6 id; have F1 := Lib.hid (hF.then_ hf); clear hf)
      | (go_at_call 63; refine (HWR.out _).mono ?_; rintro e W2 ⟨rfl, hf⟩; replace p0 := hf.cell p0 id; replace p1 := hf.cell p1 id; replace p2 := hf.cell p2 id; replace p3 := hf.cell p3 id; replace p4 := hf.cell p4 id; replace p5 := hf.cell p5 id; replace p6 := hf.cell p6 id; have F2 := Lib.hid (F1.out.then_ hf); clear hf)
      | (go_at_call 78; with_reducible refine (HDA.out _).mono ?_; rintro e v ⟨rfl, rfl⟩))
    have FR := Lib.hid F2.out
    clear F1 F2 hF HMY HWR HDA
    go_cut [4] from 19 to 67 (fun s4 wx => Txt s4 L1 100 ∧ wx = W2)
    case first =>
      cases b17 with
      | true =>
        go_wp2_with (go_at_call 78; with_reducible refine (HDO.out _).mono ?_; rintro e v ⟨rfl, rfl⟩)
        go_meet
        refine ⟨⟨_, rfl, ?_, ?_⟩, rfl⟩
        · rw [bytes_app, bytes_app, bytes_app, bytes_app, ← HL1.out, ← HL0.out]; simp [opt, bytesOf']
        · simp only [ByteArray.size_append]; have h1 : (⟨#[32]⟩ : ByteArray).size = 1 := rfl; have h2 : (⟨#[32, 111, 102, 32]⟩ : ByteArray).size = 4 := rfl; omega
      | false =>
        go_wp2_with fail
        go_meet
        refine ⟨⟨_, rfl, ?_, ?_⟩, rfl⟩
        · rw [bytes_app, bytes_app, ← HL1.out, ← HL0.out]; simp [opt, bytesOf']
        · simp only [ByteArray.size_append]; have h1 : (⟨#[32]⟩ : ByteArray).size = 1 := rfl; omega
    case rest =>
      obtain ⟨⟨S1, rfl, hS1, hs1⟩, rfl⟩ := hcut
      have HS1 := Lib.hid hS1
      clear hS1 HL0 HL1 e17
      go_upto_if 26 with fail
      go_cut [4] from 27 to 67 (fun s4 wx => Txt s4 L2 200 ∧ wx = wc)
      case first =>
        cases b25 with
        | true =>
          go_wp2_with (go_at_call 78; with_reducible refine (HDO.out _).mono ?_; rintro e v ⟨rfl, rfl⟩)
          go_meet
          refine ⟨⟨_, rfl, ?_, ?_⟩, rfl⟩
          · rw [bytes_app, bytes_app, HS1.out, ← HL2.out]; simp [opt, bytesOf']
          · simp only [ByteArray.size_append]; have h2 : (⟨#[32, 116, 111, 32]⟩ : ByteArray).size = 4 := rfl; omega
        | false =>
          go_wp2_with fail
          go_meet
          refine ⟨⟨_, rfl, ?_, ?_⟩, rfl⟩
          · rw [HS1.out, ← HL2.out]; simp [opt]
          · omega
      case rest =>
        obtain ⟨⟨S2, rfl, hS2, hs2⟩, rfl⟩ := hcut
        have HS2 := Lib.hid hS2
        clear hS2 HL2 HS1 hs1 e25
        go_upto_if 35 with fail
        go_cut [4] from 36 to 67 (fun s4 wx => Txt s4 L3 300 ∧ wx = wc)
        case first =>
          cases bt with
          | true =>
            go_wp2_with (go_at_call 78; with_reducible refine (HDT.out rfl _).mono ?_; rintro e v ⟨rfl, rfl⟩)
            go_meet
            refine ⟨⟨_, rfl, ?_, ?_⟩, rfl⟩
            · rw [bytes_app, bytes_app, HS2.out, ← HL3.out]; simp [opt, bytesOf']
            · simp only [ByteArray.size_append]; have h2 : (⟨#[32, 105, 110, 32]⟩ : ByteArray).size = 4 := rfl; omega
          | false =>
            go_wp2_with fail
            go_meet
            refine ⟨⟨_, rfl, ?_, ?_⟩, rfl⟩
            · rw [HS2.out, ← HL3.out]; simp [opt]
            · omega
        case rest =>
          obtain ⟨⟨S3, rfl, hS3, hs3⟩, rfl⟩ := hcut
          have HS3 := Lib.hid hS3
          clear hS3 HL3 HS2 hs2 et HDT st
          cases xfl with
          | true =>
            have hg := HEF.out rfl
            cases b20 with
            | true =>
              obtain rfl : G = [102, 111, 114, 99, 101] := hg
              cases xfa with
              | true =>
                cases bA with
                | true =>
                  go_wp2_with (first
                    | (go_at_call 79; refine (HAR.out _).mono ?_; rintro e v ⟨rfl, rfl⟩)
                    | (go_at_call 78; with_reducible refine (HDG.out _).mono ?_; rintro e v ⟨rfl, rfl⟩))
                  go_ret
                  exact ⟨ret_str (bytes_inj (by rw [HX.out, ← HS3.out]; simp [opt, bytesOf'])), FR.out⟩
                | false =>
                  go_wp2_with (first
                    | (go_at_call 79; refine (HAR.out _).mono ?_; rintro e v ⟨rfl, rfl⟩)
                    | (go_at_call 78; with_reducible refine (HDG.out _).mono ?_; rintro e v ⟨rfl, rfl⟩))
                  go_ret
                  exact ⟨ret_str (bytes_inj (by rw [HX.out, ← HS3.out]; simp [opt, bytesOf'])), FR.out⟩
              | false =>
                cases bA with
                | true =>
                  go_wp2_with (first
                    | (go_at_call 79; refine (HAR.out _).mono ?_; rintro e v ⟨rfl, rfl⟩)
                    | (go_at_call 78; with_reducible refine (HDG.out _).mono ?_; rintro e v ⟨rfl, rfl⟩))
                  go_ret
                  exact ⟨ret_str (bytes_inj (by rw [HX.out, ← HS3.out]; simp [opt, bytesOf'])), FR.out⟩
                | false =>
                  go_wp2_with (first
                    | (go_at_call 79; refine (HAR.out _).mono ?_; rintro e v ⟨rfl, rfl⟩)
                    | (go_at_call 78; with_reducible refine (HDG.out _).mono ?_; rintro e v ⟨rfl, rfl⟩))
                  go_ret
                  exact ⟨ret_str (bytes_inj (by rw [HX.out, ← HS3.out]; simp [opt, bytesOf'])), FR.out⟩
            | false =>
              obtain rfl : G = [102, 97, 105, 114] := hg
              cases xfa with
              | true =>
                cases bA with
                | true =>
                  go_wp2_with (first
                    | (go_at_call 79; refine (HAR.out _).mono ?_; rintro e v ⟨rfl, rfl⟩)
                    | (go_at_call 78; with_reducible refine (HDG.out _).mono ?_; rintro e v ⟨rfl, rfl⟩))
                  go_ret
                  exact ⟨ret_str (bytes_inj (by rw [HX.out, ← HS3.out]; simp [opt, bytesOf'])), FR.out⟩
                | false =>
                  go_wp2_with (first
                    | (go_at_call 79; refine (HAR.out _).mono ?_; rintro e v ⟨rfl, rfl⟩)
                    | (go_at_call 78; with_reducible refine (HDG.out _).mono ?_; rintro e v ⟨rfl, rfl⟩))
                  go_ret
                  exact ⟨ret_str (bytes_inj (by rw [HX.out, ← HS3.out]; simp [opt, bytesOf'])), FR.out⟩
              | false =>
                cases bA with
                | true =>
                  go_wp2_with (first
                    | (go_at_call 79; refine (HAR.out _).mono ?_; rintro e v ⟨rfl, rfl⟩)
                    | (go_at_call 78; with_reducible refine (HDG.out _).mono ?_; rintro e v ⟨rfl, rfl⟩))
                  go_ret
                  exact ⟨ret_str (bytes_inj (by rw [HX.out, ← HS3.out]; simp [opt, bytesOf'])), FR.out⟩
                | false =>
                  go_wp2_with (first
                    | (go_at_call 79; refine (HAR.out _).mono ?_; rintro e v ⟨rfl, rfl⟩)
                    | (go_at_call 78; with_reducible refine (HDG.out _).mono ?_; rintro e v ⟨rfl, rfl⟩))
                  go_ret
                  exact ⟨ret_str (bytes_inj (by rw [HX.out, ← HS3.out]; simp [opt, bytesOf'])), FR.out⟩
          | false =>
            cases b20 with
            | true =>
              cases xfa with
              | true =>
                cases bA with
                | true =>
                  go_wp2_with (first
                    | (go_at_call 79; refine (HAR.out _).mono ?_; rintro e v ⟨rfl, rfl⟩)
                    | (go_at_call 78; with_reducible refine (HDG.out _).mono ?_; rintro e v ⟨rfl, rfl⟩))
                  go_ret
                  exact ⟨ret_str (bytes_inj (by rw [HX.out, ← HS3.out]; simp [opt, bytesOf'])), FR.out⟩
                | false =>
                  go_wp2_with (first
                    | (go_at_call 79; refine (HAR.out _).mono ?_; rintro e v ⟨rfl, rfl⟩)
                    | (go_at_call 78; with_reducible refine (HDG.out _).mono ?_; rintro e v ⟨rfl, rfl⟩))
                  go_ret
                  exact ⟨ret_str (bytes_inj (by rw [HX.out, ← HS3.out]; simp [opt, bytesOf'])), FR.out⟩
              | false =>
                cases bA with
                | true =>
                  go_wp2_with (first
                    | (go_at_call 79; refine (HAR.out _).mono ?_; rintro e v ⟨rfl, rfl⟩)
                    | (go_at_call 78; with_reducible refine (HDG.out _).mono ?_; rintro e v ⟨rfl, rfl⟩))
                  go_ret
                  exact ⟨ret_str (bytes_inj (by rw [HX.out, ← HS3.out]; simp [opt, bytesOf'])), FR.out⟩
                | false =>
                  go_wp2_with (first
                    | (go_at_call 79; refine (HAR.out _).mono ?_; rintro e v ⟨rfl, rfl⟩)
                    | (go_at_call 78; with_reducible refine (HDG.out _).mono ?_; rintro e v ⟨rfl, rfl⟩))
                  go_ret
                  exact ⟨ret_str (bytes_inj (by rw [HX.out, ← HS3.out]; simp [opt, bytesOf'])), FR.out⟩
            | false =>
              cases xfa with
              | true =>
                cases bA with
                | true =>
                  go_wp2_with (first
                    | (go_at_call 79; refine (HAR.out _).mono ?_; rintro e v ⟨rfl, rfl⟩)
                    | (go_at_call 78; with_reducible refine (HDG.out _).mono ?_; rintro e v ⟨rfl, rfl⟩))
                  go_ret
                  exact ⟨ret_str (bytes_inj (by rw [HX.out, ← HS3.out]; simp [opt, bytesOf'])), FR.out⟩
                | false =>
                  go_wp2_with (first
                    | (go_at_call 79; refine (HAR.out _).mono ?_; rintro e v ⟨rfl, rfl⟩)
                    | (go_at_call 78; with_reducible refine (HDG.out _).mono ?_; rintro e v ⟨rfl, rfl⟩))
                  go_ret
                  exact ⟨ret_str (bytes_inj (by rw [HX.out, ← HS3.out]; simp [opt, bytesOf'])), FR.out⟩
              | false =>
                cases bA with
                | true =>
                  go_wp2_with (first
                    | (go_at_call 79; refine (HAR.out _).mono ?_; rintro e v ⟨rfl, rfl⟩)
                    | (go_at_call 78; with_reducible refine (HDG.out _).mono ?_; rintro e v ⟨rfl, rfl⟩))
                  go_ret
                  exact ⟨ret_str (bytes_inj (by rw [HX.out, ← HS3.out]; simp [opt, bytesOf'])), FR.out⟩
                | false =>
                  go_wp2_with (first
                    | (go_at_call 79; refine (HAR.out _).mono ?_; rintro e v ⟨rfl, rfl⟩)
                    | (go_at_call 78; with_reducible refine (HDG.out _).mono ?_; rintro e v ⟨rfl, rfl⟩))
                  go_ret
                  exact ⟨ret_str (bytes_inj (by rw [HX.out, ← HS3.out]; simp [opt, bytesOf'])), FR.out⟩
end Go.Proofs.YtmjpaaippilioaaDoor
