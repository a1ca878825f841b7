import Derived.Test.YtmjpaaippilioaaDoorPgV
import Derived.Test.YtmjpaaippilioaaDoorGrw
namespace Go.Proofs.YtmjpaaippilioaaDoor
open Go.RowKit

/-! ### the chapter's examples -/
def zsL : List Nat := [0, 3, 255, 9, 0, 3, 5, 0, 2, 67, 0, 0, 17, 26, 4, 0, 9, 9]
def opL : List OpR := [⟨0, 3, 0, -1, false, false, 0⟩, ⟨0, 3, 0, 5, false, false, 0⟩, ⟨2, 3, 0, -1, true, false, 0⟩, ⟨17, 2, 3, 4, false, false, 0⟩]
def wantL : List ByteArray := [⟨#[108, 111, 99, 107, 32, 51]⟩, ⟨#[108, 111, 99, 107, 32, 51, 32, 105, 110, 32, 53]⟩, ⟨#[117, 110, 108, 111, 99, 107, 32, 51, 32, 102, 97, 105, 114]⟩, ⟨#[119, 97, 105, 116, 32, 50, 32, 111, 102, 32, 51, 32, 105, 110, 32, 52]⟩]
def tidL : List OpR := [⟨0, 1, 0, -1, false, false, 0⟩, ⟨9, 0, 0, -1, false, false, 0⟩, ⟨11, 0, 0, -1, false, false, 0⟩, ⟨2, 1, 0, -1, false, false, 0⟩]
deriving instance DecidableEq for OpR
theorem bne_bytes (T : ByteArray) : (T != T) = false := by
  cases T with | mk d =>
  have : (d == d) = true := by simp
  exact congrArg (!·) this
theorem zs_op : parseL zsL = opL := by decide +kernel
theorem text_want : ∀ j : Fin 4, textO opL[j] = wantL[j] := by decide +kernel
theorem tid0 : tidyO tidL = true := by decide +kernel
theorem tid1 : tidyO (tidL.take 3) = false := by decide +kernel
theorem tid2 : tidyO (tidL.drop 1) = false := by decide +kernel
theorem parse_zs (V : World) (h : T2 V) (g c : Nat) (hr : Rd V V.heap.size 1 (some ⟨g, 0, none⟩) 18 (bz zsL)) (hc : c = 18) : Calls Tryd.prog 39 #[.slice (some ⟨g, 0, none⟩) 18 c] V fun e w' => ∃ A, e = .returned (.slice A 4 4) ∧ Sl w' V.heap.size 7 A 4 4 (opsV opL) ∧ Frm V w' fun _ => False := by
  subst hc
  have := parse_any g 0 18 18 zsL V h.t1 hr (by decide) (by decide) (Nat.le_refl _) (by unfold maxLen; omega)
  rw [zs_op] at this
  exact this
set_option maxRecDepth 100000 in
set_option maxHeartbeats 4000000 in
theorem livesP_any (w : World) (h : T2 w) : Calls Tryd.prog 31 #[] w fun e w' => e = .returned (.bool true) ∧ Frm w w' fun _ => False := by
  have H := Lib.hid h
  clear h
  go_enter Tryd.func31, Tryd.ntmps31
  go_upto_region 2 with (go_at_call 39; refine (parse_zs _ (H.out.new_ ((Frm.refl _ _).alloc _)) w.heap.size _ (Rd.fresh _ _ _ rfl) rfl).mono ?_; rintro e w1 ⟨A, rfl, hS, hf⟩)
  have hF : Frm w w1 fun _ => False := ((Frm.refl _ _).alloc _).then_ hf
  obtain ⟨-, hxc⟩ := Rd.rows OpR.cs_len (by decide) hS.rd
  obtain ⟨g, off, rfl, -, hcell⟩ := hxc (by decide)
  have F1 := Lib.hid hF
  have HC := Lib.hid hcell
  clear hS hf hF hxc hcell
  go_upto_region 3 with fail
  refine at_world' ?_
  intro W hW
  have hFW : Frm w1 W fun _ => False := by rw [hW]; exact (Frm.refl _ _).alloc _
  have hw : ∀ (j : Nat) (hj : j < 4), W.cell? ⟨w1.heap.size, j, none⟩ = some (.string wantL[j]) := by
    intro j hj
    rw [hW, World.cell?_alloc_new]
    match j, hj with
    | 0, _ => rfl
    | 1, _ => rfl
    | 2, _ => rfl
    | 3, _ => rfl
  have FW := Lib.hid hFW
  have HW := Lib.hid hw
  clear hW hFW hw
  go_wp2_with fail
  go_loopw [3] (fun i wr => ∃ j : Nat, i = .int .i64 j ∧ j ≤ 4 ∧ Frm W wr fun _ => False) (fun i _ => 4 - (intOf i).toNat)
  case atStart => exact ⟨0, rfl, Nat.zero_le _, Frm.refl _ _⟩
  case round =>
    obtain ⟨j, rfl, hj, hF⟩ := hrel
    have F := Lib.hid hF
    clear hF
    by_cases hlt : j < 4
    · have j0 : (0 : Int) ≤ (j : Int) := by omega
      have j1 : (j : Int) < 4 := by omega
      have hcx := HC.out j hlt
      have hwx := HW.out j hlt
      have htx := text_want ⟨j, hlt⟩
      have htx : textO opL[j] = wantL[j] := htx
      have hb : ∀ x ∈ opL, 0 ≤ x.k ∧ x.k < 256 := by decide
      obtain ⟨b0, b1⟩ := hb opL[j] (List.getElem_mem hlt)
      have hT : ∀ G : Grown wr, Calls Tryd.prog 48 #[opL[j].V] G.1 fun e w' => e = .returned (.string wantL[j]) ∧ Frm G.1 w' fun _ => False := fun G => by
        have := text_any opL[j] b0 b1 G.1 (((H.out.new_ F1.out).new_ FW.out).new_ (F.out.then_ G.2))
        rw [htx] at this
        exact this
      obtain ⟨X, hX⟩ : ∃ x, opL[j] = x := ⟨_, rfl⟩
      obtain ⟨T, hTx⟩ : ∃ x, wantL[j] = x := ⟨_, rfl⟩
      rw [hX] at hcx
      simp only [hX, hTx] at hT
      rw [hTx] at hwx
      have hn : (T != T) = false := bne_bytes T
      have HT := Lib.hid hT
      obtain ⟨xk, xa, xo, xt, xfl, xfa, xg⟩ := X
      have x0 : wr.cell? ⟨g, off + j * 7, none⟩ = some (.int .u8 xk) := F.out.cell (FW.out.cell (hcx 0 _ rfl) id) id
      have x1 : wr.cell? ⟨g, off + j * 7 + 1, none⟩ = some (.int .i64 xa) := F.out.cell (FW.out.cell (hcx 1 _ rfl) id) id
      have x2 : wr.cell? ⟨g, off + j * 7 + 2, none⟩ = some (.int .i64 xo) := F.out.cell (FW.out.cell (hcx 2 _ rfl) id) id
      have x3 : wr.cell? ⟨g, off + j * 7 + 3, none⟩ = some (.int .i64 xt) := F.out.cell (FW.out.cell (hcx 3 _ rfl) id) id
      have x4 : wr.cell? ⟨g, off + j * 7 + 4, none⟩ = some (.bool xfl) := F.out.cell (FW.out.cell (hcx 4 _ rfl) id) id
      have x5 : wr.cell? ⟨g, off + j * 7 + 5, none⟩ = some (.bool xfa) := F.out.cell (FW.out.cell (hcx 5 _ rfl) id) id
      have x6 : wr.cell? ⟨g, off + j * 7 + 6, none⟩ = some (.int .i64 xg) := F.out.cell (FW.out.cell (hcx 6 _ rfl) id) id
      have y0 : wr.cell? ⟨w1.heap.size, j, none⟩ = some (.string T) := F.out.cell hwx id
      clear hcx hwx htx hb b0 b1 hT hX hTx
      replace x0 := Grown.cell x0
      replace x1 := Grown.cell x1
      replace x2 := Grown.cell x2
      replace x3 := Grown.cell x3
      replace x4 := Grown.cell x4
      replace x5 := Grown.cell x5
      replace x6 := Grown.cell x6
      replace y0 := Grown.cell y0
      go_upto_region 8 with fail
      refine wp_region_grown wr (Frm.refl _ _) (by kernel_rfl) (by kernel_rfl) ?_
      repeat (go_big_quiet_step ((go_at_call 48; exact Calls.grown_of (HT.out _))))
      refine wpQuiet_nil ?_
      intro wq hq
      have HQ := Lib.hid (F.out.then_ hq)
      clear hq x0 x1 x2 x3 x4 x5 x6 y0
      go_wp2_with fail
      go_roundw
      case rel => exact ⟨j + 1, by go_num, by omega, HQ.out⟩
      case measure => simp [intOf]; omega
    · obtain rfl : j = 4 := by omega
      go_upto_region 11 with fail
      refine at_world' ?_
      intro V hV
      have hFV : Frm wr V fun _ => False := by rw [hV]; exact (Frm.refl _ _).alloc _
      have hr : Rd V V.heap.size 7 (some ⟨wr.heap.size, 0, none⟩) 4 (opsV tidL) := by rw [hV]; exact Rd.fresh _ _ _ rfl
      have FV := Lib.hid (F.out.then_ hFV)
      have H2 := Lib.hid (((H.out.new_ F1.out).new_ FW.out).new_ FV.out)
      have c0 := Lib.hid fun (v : World) (hv : Frm V v fun _ => False) => show Calls Tryd.prog 33 #[.slice (some ⟨wr.heap.size, 0, none⟩) 4 4] v fun e w' => e = .returned (.bool true) ∧ Frm v w' fun _ => False by
        have := tidyp_any _ 4 4 tidL v (H2.out.new_ hv).t1 (hr.new_ hv) (by decide) (by decide)
        rw [tid0] at this
        exact this
      have c1 := Lib.hid fun (v : World) (hv : Frm V v fun _ => False) => show Calls Tryd.prog 33 #[.slice (some ⟨wr.heap.size, 0, none⟩) 3 4] v fun e w' => e = .returned (.bool false) ∧ Frm v w' fun _ => False by
        have := tidyp_any _ 3 4 (tidL.take 3) v (H2.out.new_ hv).t1 ((hr.new_ hv).short (m := 3) (by decide)) (by decide) (by decide)
        rw [tid1] at this
        exact this
      have c2 := Lib.hid fun (v : World) (hv : Frm V v fun _ => False) => show Calls Tryd.prog 33 #[.slice (some ⟨wr.heap.size, 7, none⟩) 3 3] v fun e w' => e = .returned (.bool false) ∧ Frm v w' fun _ => False by
        obtain ⟨g2, off2, he, hr2⟩ := (hr.new_ hv).cut (k := 1) (by decide) (by decide)
        injection he with he
        injection he with he1 he2
        subst he1 he2
        have := tidyp_any _ 3 3 (tidL.drop 1) v (H2.out.new_ hv).t1 hr2 (by decide) (by decide)
        rw [tid2] at this
        exact this
      clear hV hFV hr
      go_wp2_with (first
        | (go_at_call 33; with_reducible refine (c0.out _ (Frm.refl _ _)).mono ?_; rintro e v1 ⟨rfl, hv1⟩)
        | (go_at_call 33; with_reducible refine (c1.out _ hv1).mono ?_; rintro e v2 ⟨rfl, hv2⟩)
        | (go_at_call 33; with_reducible refine (c2.out _ (hv1.then_ hv2)).mono ?_; rintro e v3 ⟨rfl, hv3⟩))
      go_ret
      exact ⟨rfl, F1.out.then_ (FW.out.then_ (FV.out.then_ (hv1.then_ (hv2.then_ hv3))))⟩
end Go.Proofs.YtmjpaaippilioaaDoor
