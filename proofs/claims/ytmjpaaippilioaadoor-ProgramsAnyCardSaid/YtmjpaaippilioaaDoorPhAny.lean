import Derived.Test.YtmjpaaippilioaaDoorPkB
import Derived.Test.YtmjpaaippilioaaDoorPkD
import Derived.Test.YtmjpaaippilioaaDoorPjE
import Derived.Test.YtmjpaaippilioaaDoorPiH
import Derived.Test.YtmjpaaippilioaaDoorPgW
import Derived.Laws.BytesArg
namespace Go.Proofs.YtmjpaaippilioaaDoor
open Go.RowKit

/-! ### the law Any -/
/-- The string of bytes. -/
def bstrA (zs : List Nat) : ByteArray := strOfNums (zs.map fun (c : Nat) => (c : Int))
theorem conv_bzA (A : Option Addr) (n c B : Nat) (zs : List Nat) (w : World) (h : Rd w B 1 A n (bz zs)) : (convert 38 9 (.slice A n c)).run Tryd.prog w = .ok (.string (bstrA zs)) w := by
  have hlen : n = zs.length := by have := h.1; simp [bz] at this; omega
  by_cases h0 : n = 0
  · have hz : zs = [] := List.eq_nil_of_length_eq_zero (by omega)
    subst h0
    subst hz
    cases A with
    | none => exact run_convert_bytes_nil (P := Tryd.prog) w 38 5 Tryd.underlying38 Tryd.underlying5 0 c 9 Tryd.underlying9
    | some a =>
      rw [run_convert_bytes_string (P := Tryd.prog) w 38 9 5 _ 0 c Tryd.underlying38 Tryd.underlying5 Tryd.underlying9]
      exact run_bytesToString (P := Tryd.prog) w a 0 c [] (by simp [loadCells, loadCellsFrom])
  · obtain ⟨g, off, rfl, _, hc⟩ := h.2 (by rw [h.1]; omega)
    refine run_convert_bytes_arg (P := Tryd.prog) w 38 5 Tryd.underlying38 Tryd.underlying5 g off n c (zs.map fun (c : Nat) => (c : Int)) (by simp [hlen]) (fun i hi => hc i _ ?_) 9 Tryd.underlying9
    have hi2 : i < zs.length := by omega
    simp [bz, List.getElem?_eq_getElem hi2, List.getD]
theorem WrPost.yes {xs : List OpR} {n : Nat} {w w' : World} {e : Ending} (h : WrPost xs n w e w') (ha : allO xs = true) : ∃ A c, e = .returned (.tuple #[.slice A (n * 4) c, .bool true]) ∧ Sl w' w.heap.size 1 A (n * 4) c (bz (wNs xs)) := by
  rcases h with ⟨_, h⟩ | ⟨h, _⟩
  · exact h
  · rw [ha] at h; cases h
theorem WrPost.no {xs : List OpR} {n : Nat} {w w' : World} {e : Ending} (h : WrPost xs n w e w') (ha : allO xs = false) : e = .returned (.tuple #[.slice none 0 0, .bool false]) := by
  rcases h with ⟨h, _⟩ | ⟨_, h⟩
  · rw [ha] at h; cases h
  · exact h
set_option maxRecDepth 100000 in
set_option maxHeartbeats 8000000 in
theorem any_law (A : Option Addr) (n c : Nat) (xs : List OpR) (w : World) (h : T2 w) (hr : Rd w w.heap.size 7 A n (opsV xs)) (hk : KOk xs) :
    Calls Tryd.prog 14 #[.slice A n c] w fun e w' => e = .returned (.bool true) ∧ Frm w w' fun _ => False := by
  have H := Lib.hid h
  have HL := Lib.hid fun (v : World) (hv : Frm w v fun _ => False) => livesP_any v (H.out.new_ hv)
  by_cases hn : n ≤ 200
  rotate_left
  · have hn' : (200 : Int) < (n : Int) := by omega
    clear h hr hk
    go_enter Tryd.func14, Tryd.ntmps14
    go_wp2_with (go_at_call 31; refine (HL.out _ (Frm.refl _ _)).mono ?_; rintro e w1 ⟨rfl, hf⟩)
    go_ret
    exact ⟨rfl, hf⟩
  have hn' : (n : Int) ≤ 200 := by omega
  have HR := Lib.hid hr
  have HK := Lib.hid hk
  have HO := Lib.hid (others_any A n c xs w hr hk (by omega))
  obtain ⟨hxl, hxc⟩ := Rd.rows OpR.cs_len (by decide) hr
  have HXL := Lib.hid hxl
  have HXC := Lib.hid hxc
  clear h hr hk hxl hxc
  go_enter Tryd.func14, Tryd.ntmps14
  go_upto_region 4 with (go_at_call 35; refine HO.out.mono ?_; rintro e w1 ⟨Am, cm, rfl, hSm, hf⟩; have SM := Lib.hid hSm; have F1 := Lib.hid hf; clear hSm hf)
  obtain ⟨-, hyc⟩ := Rd.rows OpR.rcs_len (by decide) SM.out.rd
  have HYC := Lib.hid hyc
  clear hyc HO
  go_wp2_with fail
  go_loopw [4] (fun i wr => ∃ j : Nat, i = .int .i64 j ∧ j ≤ n ∧ Frm w1 wr fun _ => False) (fun i _ => n - (intOf i).toNat)
  case atStart => exact ⟨0, rfl, Nat.zero_le _, Frm.refl _ _⟩
  case round =>
    obtain ⟨j, rfl, hj, hF⟩ := hrel
    have F := Lib.hid hF
    have j0 : (0 : Int) ≤ (j : Int) := by omega
    have j1 : (j : Int) ≤ (n : Int) := by omega
    clear hF
    by_cases hlt : j < n
    · have j2 : (j : Int) < (n : Int) := by omega
      obtain ⟨g, off, rfl, -, hcx⟩ := HXC.out (by omega)
      obtain ⟨h, oh, rfl, -, hcy⟩ := HYC.out (by omega)
      have hjl : j < xs.length := by have := HXL.out; omega
      have hx := hcx j hjl
      have hy := hcy j hjl
      obtain ⟨q0, q1⟩ := HK.out _ (List.getElem_mem hjl)
      obtain ⟨X, hX⟩ : ∃ X, xs[j] = X := ⟨_, rfl⟩
      rw [hX] at hx hy q0 q1
      have HA1 := Lib.hid fun v (hv : Frm w1 v fun _ => False) => addr_any Ut X X.k.toNat (by omega) (by omega) v (H.out.new_ (F1.out.then_ hv)).t1.tabs (H.out.new_ (F1.out.then_ hv)).t1.size tabsOk
      have HA2 := Lib.hid fun v => addr_ref X q0 v
      have HM1 := Lib.hid fun v (hv : Frm w1 v fun _ => False) => mayP_any Ut X X.k.toNat (by omega) (by omega) v (H.out.new_ (F1.out.then_ hv)).t1.tabs (H.out.new_ (F1.out.then_ hv)).t1.size
      have HM2 := Lib.hid fun v => may_ref X q0 v
      have HT1 := Lib.hid fun v (hv : Frm w1 v fun _ => False) => text_any X q0 (by omega) v (H.out.new_ (F1.out.then_ hv))
      have HT2 := Lib.hid fun v => text_ref X q0 v
      obtain ⟨av, hav⟩ : ∃ a, (addrO Ut X).1 = a := ⟨_, rfl⟩
      obtain ⟨ov, hov⟩ : ∃ a, (addrO Ut X).2 = a := ⟨_, rfl⟩
      obtain ⟨mv, hmv⟩ : ∃ b, mayO Ut X = b := ⟨_, rfl⟩
      obtain ⟨T, hT⟩ : ∃ T, textO X = T := ⟨_, rfl⟩
      simp only [hav, hov] at HA1 HA2
      simp only [hmv] at HM1 HM2
      simp only [hT] at HT1 HT2
      have ea : (av != av) = false := by simp
      have eo : (ov != ov) = false := by simp
      have em : (mv != mv) = false := by simp
      obtain ⟨xk, xa, xo, xt, xfl, xfa, xg⟩ := X
      have x0 : wr.cell? ⟨g, off + j * 7, none⟩ = some (.int .u8 xk) := (F1.out.then_ F.out).cell (hx 0 _ rfl) id
      have x1 : wr.cell? ⟨g, off + j * 7 + 1, none⟩ = some (.int .i64 xa) := (F1.out.then_ F.out).cell (hx 1 _ rfl) id
      have x2 : wr.cell? ⟨g, off + j * 7 + 2, none⟩ = some (.int .i64 xo) := (F1.out.then_ F.out).cell (hx 2 _ rfl) id
      have x3 : wr.cell? ⟨g, off + j * 7 + 3, none⟩ = some (.int .i64 xt) := (F1.out.then_ F.out).cell (hx 3 _ rfl) id
      have x4 : wr.cell? ⟨g, off + j * 7 + 4, none⟩ = some (.bool xfl) := (F1.out.then_ F.out).cell (hx 4 _ rfl) id
      have x5 : wr.cell? ⟨g, off + j * 7 + 5, none⟩ = some (.bool xfa) := (F1.out.then_ F.out).cell (hx 5 _ rfl) id
      have x6 : wr.cell? ⟨g, off + j * 7 + 6, none⟩ = some (.int .i64 xg) := (F1.out.then_ F.out).cell (hx 6 _ rfl) id
      have y0 : wr.cell? ⟨h, oh + j * 7, none⟩ = some (.int .i64 xk) := F.out.cell (hy 0 _ rfl) id
      have y1 : wr.cell? ⟨h, oh + j * 7 + 1, none⟩ = some (.int .i64 xa) := F.out.cell (hy 1 _ rfl) id
      have y2 : wr.cell? ⟨h, oh + j * 7 + 2, none⟩ = some (.int .i64 xo) := F.out.cell (hy 2 _ rfl) id
      have y3 : wr.cell? ⟨h, oh + j * 7 + 3, none⟩ = some (.int .i64 xt) := F.out.cell (hy 3 _ rfl) id
      have y4 : wr.cell? ⟨h, oh + j * 7 + 4, none⟩ = some (.bool xfl) := F.out.cell (hy 4 _ rfl) id
      have y5 : wr.cell? ⟨h, oh + j * 7 + 5, none⟩ = some (.bool xfa) := F.out.cell (hy 5 _ rfl) id
      have y6 : wr.cell? ⟨h, oh + j * 7 + 6, none⟩ = some (.int .i64 xg) := F.out.cell (hy 6 _ rfl) id
      clear hcx hcy hx hy hX q0 q1 hav hov hmv hT
      go_upto_region 9 with (first
        | (go_at_call 44; refine (HA1.out _ F.out).mono ?_; rintro e w2 ⟨rfl, hf⟩; replace x0 := hf.cell x0 id; replace x1 := hf.cell x1 id; replace x2 := hf.cell x2 id; replace x3 := hf.cell x3 id; replace x4 := hf.cell x4 id; replace x5 := hf.cell x5 id; replace x6 := hf.cell x6 id; replace y0 := hf.cell y0 id; replace y1 := hf.cell y1 id; replace y2 := hf.cell y2 id; replace y3 := hf.cell y3 id; replace y4 := hf.cell y4 id; replace y5 := hf.cell y5 id; replace y6 := hf.cell y6 id; have F2 := Lib.hid (F.out.then_ hf); clear hf)
        | (go_at_call 45; refine (HA2.out _).mono ?_; rintro e w3 ⟨rfl, hf⟩; replace x0 := hf.cell x0 id; replace x1 := hf.cell x1 id; replace x2 := hf.cell x2 id; replace x3 := hf.cell x3 id; replace x4 := hf.cell x4 id; replace x5 := hf.cell x5 id; replace x6 := hf.cell x6 id; replace y0 := hf.cell y0 id; replace y1 := hf.cell y1 id; replace y2 := hf.cell y2 id; replace y3 := hf.cell y3 id; replace y4 := hf.cell y4 id; replace y5 := hf.cell y5 id; replace y6 := hf.cell y6 id; have F3 := Lib.hid (F2.out.then_ hf); clear hf))
      replace x0 := Grown.cell x0
      replace x1 := Grown.cell x1
      replace x2 := Grown.cell x2
      replace x3 := Grown.cell x3
      replace x4 := Grown.cell x4
      replace x5 := Grown.cell x5
      replace x6 := Grown.cell x6
      replace y0 := Grown.cell y0
      replace y1 := Grown.cell y1
      replace y2 := Grown.cell y2
      replace y3 := Grown.cell y3
      replace y4 := Grown.cell y4
      replace y5 := Grown.cell y5
      replace y6 := Grown.cell y6
      have G1 := Lib.hid fun G : Grown w3 => HM1.out G.1 (F3.out.then_ G.2)
      have G2 := Lib.hid fun G : Grown w3 => HM2.out G.1
      have G3 := Lib.hid fun G : Grown w3 => HT1.out G.1 (F3.out.then_ G.2)
      have G4 := Lib.hid fun G : Grown w3 => HT2.out G.1
      clear HA1 HA2 HM1 HM2 HT1 HT2 F F2
      refine wp_region_grown w3 (Frm.refl _ _) (by kernel_rfl) (by kernel_rfl) ?_
      repeat (go_big_quiet_step ((first
        | (go_at_call 46; exact Calls.grown_of (G1.out _))
        | (go_at_call 47; exact Calls.grown_of (G2.out _))
        | (go_at_call 48; exact Calls.grown_of (G3.out _))
        | (go_at_call 49; exact Calls.grown_of (G4.out _)))))
      refine wpQuiet_nil ?_
      intro wq hq2
      have HQ := Lib.hid (F3.out.then_ hq2)
      clear hq2 x0 x1 x2 x3 x4 x5 x6 y0 y1 y2 y3 y4 y5 y6
      go_wp2_with fail
      go_roundw
      case rel => exact ⟨j + 1, by go_num, by omega, HQ.out⟩
      case measure => simp [intOf]; omega
    · obtain rfl : j = n := by omega
      clear hlt
      have F01 := Lib.hid (F1.out.then_ F.out)
      have RX := Lib.hid (HR.out.new_ F01.out)
      have SX := Lib.hid (SM.out.new_ F.out)
      have W1 := Lib.hid (write_any A j c xs wr (H.out.new_ F01.out).t1 RX.out HK.out (by omega))
      have W2 := Lib.hid fun v (hv : Frm wr v fun _ => False) => write_ref Am j cm xs v (SX.out.new_ hv).rd HK.out (by omega)
      have D1 := Lib.hid fun v (hv : Frm wr v fun _ => False) => tidyp_any A j c xs v (H.out.new_ (F01.out.then_ hv)).t1 (RX.out.new_ hv) HK.out (by omega)
      have D2 := Lib.hid fun v (hv : Frm wr v fun _ => False) => tidy_ref Am j cm xs v (SX.out.new_ hv).rd HK.out (by omega)
      obtain ⟨tv, htv⟩ : ∃ b, tidyO xs = b := ⟨_, rfl⟩
      simp only [htv] at D1 D2
      have et : (tv != tv) = false := by simp
      have HLX := Lib.hid fun (v : World) (hv : Frm wr v fun _ => False) => HL.out v (F01.out.then_ hv)
      have FB := F
      clear htv F
      obtain ⟨al, hal⟩ : ∃ b, allO xs = b := ⟨_, rfl⟩
      cases al with
      | true =>
        go_upto_region 13 with (first
          | (go_at_call 50; refine W1.out.mono ?_; rintro e w2 ⟨hp, hf⟩; obtain ⟨A5, c5, rfl, hs5⟩ := hp.yes hal; have S5 := Lib.hid hs5; have F5 := Lib.hid hf; clear hp hf hs5)
          | (go_at_call 51; refine (W2.out _ F5.out).mono ?_; rintro e w3 ⟨hp, hf⟩; obtain ⟨A6, c6, rfl, hs6⟩ := hp.yes hal; have S6 := Lib.hid hs6; have F6 := Lib.hid (F5.out.then_ hf); have S7 := Lib.hid (S5.out.new_ hf); clear hp hf hs6))
        have k1 := conv_bzA A5 (j * 4) c5 _ (wNs xs) w3 S7.out.rd
        have k2 := conv_bzA A6 (j * 4) c6 _ (wNs xs) w3 S6.out.rd
        clear hal W1 W2
        go_wp2_with (first
          | (go_at_call 33; refine (D1.out _ F6.out).mono ?_; rintro e w4 ⟨rfl, hf⟩; have F7 := Lib.hid (F6.out.then_ hf); clear hf)
          | (go_at_call 34; refine (D2.out _ F7.out).mono ?_; rintro e w5 ⟨rfl, hf⟩; have F8 := Lib.hid (F7.out.then_ hf); clear hf))
        have eqn := neq71
        have eqg := eqg71
        go_loopw [13] (fun i wy => ∃ q : Nat, i = .int .i64 q ∧ q ≤ j ∧ Frm wr wy fun _ => False) (fun i _ => j - (intOf i).toNat)
        case atStart => exact ⟨0, rfl, Nat.zero_le _, F8.out⟩
        case round =>
          obtain ⟨q, rfl, hq, hF⟩ := hrel
          have F := Lib.hid (FB.out.then_ hF)
          have FZ := Lib.hid (F01.out.then_ hF)
          have FY := Lib.hid hF
          have q0 : (0 : Int) ≤ (q : Int) := by omega
          have q1 : (q : Int) ≤ (j : Int) := by omega
          clear hF
          by_cases hlt : q < j
          · have q2 : (q : Int) < (j : Int) := by omega
            obtain ⟨g, off, rfl, -, hcx⟩ := HXC.out (by omega)
            obtain ⟨h, oh, rfl, -, hcy⟩ := HYC.out (by omega)
            have hql : q < xs.length := by have := HXL.out; omega
            have hx := hcx q hql
            have hy := hcy q hql
            obtain ⟨r0, r1⟩ := HK.out _ (List.getElem_mem hql)
            obtain ⟨X, hX⟩ : ∃ X, xs[q] = X := ⟨_, rfl⟩
            rw [hX] at hx hy r0 r1
            have HOO := Lib.hid fun G : Grown wr => other_any X r0 r1 G.1
            have hqe := eqn X
            obtain ⟨xk, xa, xo, xt, xfl, xfa, xg⟩ := X
            have x0 : wr.cell? ⟨g, off + q * 7, none⟩ = some (.int .u8 xk) := FZ.out.cell (hx 0 _ rfl) id
            have x1 : wr.cell? ⟨g, off + q * 7 + 1, none⟩ = some (.int .i64 xa) := FZ.out.cell (hx 1 _ rfl) id
            have x2 : wr.cell? ⟨g, off + q * 7 + 2, none⟩ = some (.int .i64 xo) := FZ.out.cell (hx 2 _ rfl) id
            have x3 : wr.cell? ⟨g, off + q * 7 + 3, none⟩ = some (.int .i64 xt) := FZ.out.cell (hx 3 _ rfl) id
            have x4 : wr.cell? ⟨g, off + q * 7 + 4, none⟩ = some (.bool xfl) := FZ.out.cell (hx 4 _ rfl) id
            have x5 : wr.cell? ⟨g, off + q * 7 + 5, none⟩ = some (.bool xfa) := FZ.out.cell (hx 5 _ rfl) id
            have x6 : wr.cell? ⟨g, off + q * 7 + 6, none⟩ = some (.int .i64 xg) := FZ.out.cell (hx 6 _ rfl) id
            have y0 : wr.cell? ⟨h, oh + q * 7, none⟩ = some (.int .i64 xk) := F.out.cell (hy 0 _ rfl) id
            have y1 : wr.cell? ⟨h, oh + q * 7 + 1, none⟩ = some (.int .i64 xa) := F.out.cell (hy 1 _ rfl) id
            have y2 : wr.cell? ⟨h, oh + q * 7 + 2, none⟩ = some (.int .i64 xo) := F.out.cell (hy 2 _ rfl) id
            have y3 : wr.cell? ⟨h, oh + q * 7 + 3, none⟩ = some (.int .i64 xt) := F.out.cell (hy 3 _ rfl) id
            have y4 : wr.cell? ⟨h, oh + q * 7 + 4, none⟩ = some (.bool xfl) := F.out.cell (hy 4 _ rfl) id
            have y5 : wr.cell? ⟨h, oh + q * 7 + 5, none⟩ = some (.bool xfa) := F.out.cell (hy 5 _ rfl) id
            have y6 : wr.cell? ⟨h, oh + q * 7 + 6, none⟩ = some (.int .i64 xg) := F.out.cell (hy 6 _ rfl) id
            clear hcx hcy hx hy hX r0 r1
            go_upto_region 18 with fail
            replace x0 := Grown.cell x0
            replace x1 := Grown.cell x1
            replace x2 := Grown.cell x2
            replace x3 := Grown.cell x3
            replace x4 := Grown.cell x4
            replace x5 := Grown.cell x5
            replace x6 := Grown.cell x6
            replace y0 := Grown.cell y0
            replace y1 := Grown.cell y1
            replace y2 := Grown.cell y2
            replace y3 := Grown.cell y3
            replace y4 := Grown.cell y4
            replace y5 := Grown.cell y5
            replace y6 := Grown.cell y6
            refine wp_region_grown wr (Frm.refl _ _) (by kernel_rfl) (by kernel_rfl) ?_
            repeat (go_big_quiet_step ((go_at_call 52; exact Calls.grown_of (HOO.out _))))
            refine wpQuiet_nil ?_
            intro wq hq2
            have HQ := Lib.hid (FY.out.then_ hq2)
            clear hq2 x0 x1 x2 x3 x4 x5 x6 y0 y1 y2 y3 y4 y5 y6
            go_wp2_with fail
            go_roundw
            case rel => exact ⟨q + 1, by go_num, by omega, HQ.out⟩
            case measure => simp [intOf]; omega
          · obtain rfl : q = j := by omega
            clear hlt
            go_wp2_with (go_at_call 31; refine (HLX.out _ FY.out).mono ?_; rintro e wz ⟨rfl, hf⟩)
            go_ret
            exact ⟨rfl, FZ.out.then_ hf⟩
      | false =>
        go_upto_region 13 with (first
          | (go_at_call 50; refine W1.out.mono ?_; rintro e w2 ⟨hp, hf⟩; obtain rfl := hp.no hal; have F5 := Lib.hid hf; clear hp hf)
          | (go_at_call 51; refine (W2.out _ F5.out).mono ?_; rintro e w3 ⟨hp, hf⟩; obtain rfl := hp.no hal; have F6 := Lib.hid (F5.out.then_ hf); clear hp hf))
        have k1 := conv_bzA none 0 0 w3.heap.size [] w3 (Rd.nil _ _ _ _)
        clear hal W1 W2
        go_wp2_with (first
          | (go_at_call 33; refine (D1.out _ F6.out).mono ?_; rintro e w4 ⟨rfl, hf⟩; have F7 := Lib.hid (F6.out.then_ hf); clear hf)
          | (go_at_call 34; refine (D2.out _ F7.out).mono ?_; rintro e w5 ⟨rfl, hf⟩; have F8 := Lib.hid (F7.out.then_ hf); clear hf))
        have eqn := neq71
        have eqg := eqg71
        go_loopw [13] (fun i wy => ∃ q : Nat, i = .int .i64 q ∧ q ≤ j ∧ Frm wr wy fun _ => False) (fun i _ => j - (intOf i).toNat)
        case atStart => exact ⟨0, rfl, Nat.zero_le _, F8.out⟩
        case round =>
          obtain ⟨q, rfl, hq, hF⟩ := hrel
          have F := Lib.hid (FB.out.then_ hF)
          have FZ := Lib.hid (F01.out.then_ hF)
          have FY := Lib.hid hF
          have q0 : (0 : Int) ≤ (q : Int) := by omega
          have q1 : (q : Int) ≤ (j : Int) := by omega
          clear hF
          by_cases hlt : q < j
          · have q2 : (q : Int) < (j : Int) := by omega
            obtain ⟨g, off, rfl, -, hcx⟩ := HXC.out (by omega)
            obtain ⟨h, oh, rfl, -, hcy⟩ := HYC.out (by omega)
            have hql : q < xs.length := by have := HXL.out; omega
            have hx := hcx q hql
            have hy := hcy q hql
            obtain ⟨r0, r1⟩ := HK.out _ (List.getElem_mem hql)
            obtain ⟨X, hX⟩ : ∃ X, xs[q] = X := ⟨_, rfl⟩
            rw [hX] at hx hy r0 r1
            have HOO := Lib.hid fun G : Grown wr => other_any X r0 r1 G.1
            have hqe := eqn X
            obtain ⟨xk, xa, xo, xt, xfl, xfa, xg⟩ := X
            have x0 : wr.cell? ⟨g, off + q * 7, none⟩ = some (.int .u8 xk) := FZ.out.cell (hx 0 _ rfl) id
            have x1 : wr.cell? ⟨g, off + q * 7 + 1, none⟩ = some (.int .i64 xa) := FZ.out.cell (hx 1 _ rfl) id
            have x2 : wr.cell? ⟨g, off + q * 7 + 2, none⟩ = some (.int .i64 xo) := FZ.out.cell (hx 2 _ rfl) id
            have x3 : wr.cell? ⟨g, off + q * 7 + 3, none⟩ = some (.int .i64 xt) := FZ.out.cell (hx 3 _ rfl) id
            have x4 : wr.cell? ⟨g, off + q * 7 + 4, none⟩ = some (.bool xfl) := FZ.out.cell (hx 4 _ rfl) id
            have x5 : wr.cell? ⟨g, off + q * 7 + 5, none⟩ = some (.bool xfa) := FZ.out.cell (hx 5 _ rfl) id
            have x6 : wr.cell? ⟨g, off + q * 7 + 6, none⟩ = some (.int .i64 xg) := FZ.out.cell (hx 6 _ rfl) id
            have y0 : wr.cell? ⟨h, oh + q * 7, none⟩ = some (.int .i64 xk) := F.out.cell (hy 0 _ rfl) id
            have y1 : wr.cell? ⟨h, oh + q * 7 + 1, none⟩ = some (.int .i64 xa) := F.out.cell (hy 1 _ rfl) id
            have y2 : wr.cell? ⟨h, oh + q * 7 + 2, none⟩ = some (.int .i64 xo) := F.out.cell (hy 2 _ rfl) id
            have y3 : wr.cell? ⟨h, oh + q * 7 + 3, none⟩ = some (.int .i64 xt) := F.out.cell (hy 3 _ rfl) id
            have y4 : wr.cell? ⟨h, oh + q * 7 + 4, none⟩ = some (.bool xfl) := F.out.cell (hy 4 _ rfl) id
            have y5 : wr.cell? ⟨h, oh + q * 7 + 5, none⟩ = some (.bool xfa) := F.out.cell (hy 5 _ rfl) id
            have y6 : wr.cell? ⟨h, oh + q * 7 + 6, none⟩ = some (.int .i64 xg) := F.out.cell (hy 6 _ rfl) id
            clear hcx hcy hx hy hX r0 r1
            go_upto_region 18 with fail
            replace x0 := Grown.cell x0
            replace x1 := Grown.cell x1
            replace x2 := Grown.cell x2
            replace x3 := Grown.cell x3
            replace x4 := Grown.cell x4
            replace x5 := Grown.cell x5
            replace x6 := Grown.cell x6
            replace y0 := Grown.cell y0
            replace y1 := Grown.cell y1
            replace y2 := Grown.cell y2
            replace y3 := Grown.cell y3
            replace y4 := Grown.cell y4
            replace y5 := Grown.cell y5
            replace y6 := Grown.cell y6
            refine wp_region_grown wr (Frm.refl _ _) (by kernel_rfl) (by kernel_rfl) ?_
            repeat (go_big_quiet_step ((go_at_call 52; exact Calls.grown_of (HOO.out _))))
            refine wpQuiet_nil ?_
            intro wq hq2
            have HQ := Lib.hid (FY.out.then_ hq2)
            clear hq2 x0 x1 x2 x3 x4 x5 x6 y0 y1 y2 y3 y4 y5 y6
            go_wp2_with fail
            go_roundw
            case rel => exact ⟨q + 1, by go_num, by omega, HQ.out⟩
            case measure => simp [intOf]; omega
          · obtain rfl : q = j := by omega
            clear hlt
            go_wp2_with (go_at_call 31; refine (HLX.out _ FY.out).mono ?_; rintro e wz ⟨rfl, hf⟩)
            go_ret
            exact ⟨rfl, FZ.out.then_ hf⟩
end Go.Proofs.YtmjpaaippilioaaDoor
