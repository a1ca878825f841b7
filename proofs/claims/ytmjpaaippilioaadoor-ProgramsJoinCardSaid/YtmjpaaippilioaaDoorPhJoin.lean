import Derived.Test.YtmjpaaippilioaaDoorPhL
import Derived.Test.YtmjpaaippilioaaDoorPhD
namespace Go.Proofs.YtmjpaaippilioaaDoor
open Go.RowKit

set_option maxRecDepth 100000 in
set_option maxHeartbeats 4000000 in
theorem join_law (A : Option Addr) (n c : Nat) (zs : List Nat) (B : Option Addr) (m d : Nat) (ys : List Nat) (w : World) (h : T2 w) (hrA : Rd w w.heap.size 1 A n (bz zs)) (hzA : ∀ z ∈ zs, z ≤ 255) (hrB : Rd w w.heap.size 1 B m (bz ys)) (hzB : ∀ z ∈ ys, z ≤ 255) :
    Calls Tryd.prog 9 #[.slice A n c, .slice B m d] w fun e w' => e = .returned (.bool true) ∧ Frm w w' fun _ => False := by
  have H := Lib.hid h
  have RA := Lib.hid hrA
  have RB := Lib.hid hrB
  have ZA := Lib.hid hzA
  have ZB := Lib.hid hzB
  have HL := Lib.hid fun (v : World) (hv : Frm w v fun _ => False) => livesP_any v (H.out.new_ hv)
  obtain ⟨i50, hi, hz0, hz1, hz2⟩ := info_parts info50
  clear h hrA hzA hrB hzB
  by_cases hn : n ≤ 60
  rotate_left
  · have hn' : (60 : Int) < (n : Int) := by omega
    go_enter Tryd.func9, Tryd.ntmps9
    go_wp2_with (go_at_call 31; refine (HL.out _ (Frm.refl _ _)).mono ?_; rintro e w1 ⟨rfl, hf⟩)
    go_ret
    exact ⟨rfl, hf⟩
  by_cases hm : m ≤ 60
  rotate_left
  · have hn' : (n : Int) ≤ 60 := by omega
    have hm' : (60 : Int) < (m : Int) := by omega
    go_enter Tryd.func9, Tryd.ntmps9
    go_wp2_with (go_at_call 31; refine (HL.out _ (Frm.refl _ _)).mono ?_; rintro e w1 ⟨rfl, hf⟩)
    go_ret
    exact ⟨rfl, hf⟩
  have hn' : (n : Int) ≤ 60 := by omega
  have hm' : (m : Int) ≤ 60 := by omega
  have M1 := Lib.hid (made_any A n c zs w H.out RA.out ZA.out (by omega))
  have M2 := Lib.hid fun (v : World) (hv : Frm w v fun _ => False) => made_any B m d ys v (H.out.new_ hv) (RB.out.new_ hv) ZB.out (by omega)
  go_enter Tryd.func9, Tryd.ntmps9
  go_upto_region 4 with (go_at_call 32; refine M1.out.mono ?_; rintro e w1 ⟨Ax, nx, cx, xs, rfl, hSx, hKx, hnx, hf1⟩)
  have SX1 := Lib.hid hSx
  have KX := Lib.hid hKx
  have F1 := Lib.hid hf1
  clear hSx hKx hf1
  go_upto_region 5 with (go_at_call 32; refine (M2.out _ F1.out).mono ?_; rintro e w2 ⟨Ay, ny, cy, zy, rfl, hSy, hKy, hny, hf2⟩)
  have F2 := Lib.hid (F1.out.then_ hf2)
  have RX := Lib.hid (SX1.out.new_ hf2).rd
  have SX := Lib.hid (SX1.out.new_ hf2)
  have RY := Lib.hid hSy.rd
  have KY := Lib.hid hKy
  have hxl : xs.length = nx := by have := SX1.out.len; rw [opsV_len] at this; omega
  have hyl : zy.length = ny := by have := hSy.len; rw [opsV_len] at this; omega
  have HXL := Lib.hid hxl
  have HYL := Lib.hid hyl
  have hcx := SX.out.le
  have HCX := Lib.hid hcx
  have hnx' : (nx : Int) ≤ 120 := by omega
  have hny' : (ny : Int) ≤ 120 := by omega
  have HNX := Lib.hid hnx
  have HNY := Lib.hid hny
  obtain ⟨r1, r2⟩ : 0 + nx ≤ maxLen ∧ (0 + nx) * 48 ≤ 140737488355328 := by unfold maxLen; omega
  obtain ⟨s1, s2⟩ : nx + ny ≤ maxLen ∧ (nx + ny) * 48 ≤ 140737488355328 := by unfold maxLen; omega
  clear hSy hKy hf2 hxl hyl hcx hnx hny
  go_upto_region 6 with (first
    | (at_builtin; refine wpList_append_sl _ rfl (.const (.slice none 0 0)) (.tmp 28) 39 rfl w2.heap.size 50 i50 _ 7 48 Tryd.underlying39 hi hz0 hz1 hz2 rfl (by decide) _ _ _ _ rfl (Sl.nil w2 w2.heap.size 7) _ _ _ (opsV xs) rfl RX.out (opsV_one xs) r1 r2 (Nat.le_refl _) ?_; intro A3 c3 w3 hap; rw [Nat.zero_add, List.nil_append] at hap; replace hap := Lib.hid hap)
    | (at_builtin; refine wpList_append_sl _ rfl (.tmp 29) (.tmp 30) 39 rfl w2.heap.size 50 i50 _ 7 48 Tryd.underlying39 hi hz0 hz1 hz2 rfl (by decide) _ _ _ _ rfl hap.out.1 _ _ _ (opsV zy) rfl (RY.out.new_ (hap.out.2.1.mono fun _ _ h => blk_none _ h)) (opsV_one zy) s1 s2 hap.out.2.1.size ?_; intro A4 c4 w4 hap2; replace hap2 := Lib.hid hap2))
  have hF24 : Frm w2 w4 fun _ => False := (hap.out.2.1.mono fun _ _ h => blk_none _ h).trans hap2.out.2.1 (fun q hq h => by
    rcases hap.out.2.2 q h with h | h
    · exact blk_none _ h
    · omega)
  have FW := Lib.hid (F2.out.then_ hF24)
  have RX4 := Lib.hid (RX.out.new_ hF24)
  have RY4 := Lib.hid (RY.out.new_ hF24)
  have hSb := hap2.out.1
  rw [show opsV xs ++ opsV zy = opsV (xs ++ zy) from List.flatMap_append.symm] at hSb
  have RB4 := Lib.hid hSb.rd
  have KB := Lib.hid (KX.out.app KY.out)
  have HX := Lib.hid fun (v : World) (hv : Frm w4 v fun _ => False) => tidyp_any Ax nx cx xs v (H.out.new_ (FW.out.then_ hv)).t1 (RX4.out.new_ hv) KX.out (by omega)
  have HY := Lib.hid fun (v : World) (hv : Frm w4 v fun _ => False) => tidyp_any Ay ny cy zy v (H.out.new_ (FW.out.then_ hv)).t1 (RY4.out.new_ hv) KY.out (by omega)
  have HB := Lib.hid fun (v : World) (hv : Frm w4 v fun _ => False) => tidyp_any A4 (nx + ny) c4 (xs ++ zy) v (H.out.new_ (FW.out.then_ hv)).t1 (RB4.out.new_ hv) KB.out (by omega)
  have HL4 := Lib.hid fun (v : World) (hv : Frm w4 v fun _ => False) => HL.out v (FW.out.then_ hv)
  have D := Lib.hid (Frm.refl w4 fun _ => False)
  clear hSb hF24 r1 r2 s1 s2 hap hap2
  cases tx : tidyO xs with
  | false =>
    rw [tx] at HX
    clear tx
    go_wp2_with (first
      | (go_at_call 33; with_reducible refine (HX.out _ D.out).mono ?_; rintro e w5 ⟨rfl, hf⟩; replace D := Lib.hid (D.out.then_ hf); clear hf)
      | (go_at_call 31; refine (HL4.out _ D.out).mono ?_; rintro e w6 ⟨rfl, hf⟩))
    go_ret
    exact ⟨rfl, FW.out.then_ (D.out.then_ hf)⟩
  | true =>
    have hta : tidyO (xs ++ zy) = tidyO zy := tidy_app tx
    cases ty : tidyO zy with
    | false =>
      rw [ty] at hta HY
      rw [tx] at HX
      rw [hta] at HB
      clear tx ty hta
      go_wp2_with (first
        | (go_at_call 33; with_reducible refine (HX.out _ D.out).mono ?_; rintro e w5 ⟨rfl, hf⟩; replace D := Lib.hid (D.out.then_ hf); clear hf)
        | (go_at_call 33; with_reducible refine (HY.out _ D.out).mono ?_; rintro e w5 ⟨rfl, hf⟩; replace D := Lib.hid (D.out.then_ hf); clear hf)
        | (go_at_call 33; with_reducible refine (HB.out _ D.out).mono ?_; rintro e w5 ⟨rfl, hf⟩; replace D := Lib.hid (D.out.then_ hf); clear hf)
        | (go_at_call 31; refine (HL4.out _ D.out).mono ?_; rintro e w6 ⟨rfl, hf⟩))
      go_ret
      exact ⟨rfl, FW.out.then_ (D.out.then_ hf)⟩
    | true =>
      rw [ty] at hta HY
      have TX := Lib.hid tx
      have TB := Lib.hid hta
      have hcnt := tidy_count hta
      rw [tx] at HX
      rw [hta] at HB
      have HT := Lib.hid fun (v : World) (hv : Frm w4 v fun _ => False) => takes_any A4 (nx + ny) c4 (xs ++ zy) v (RB4.out.new_ hv) KB.out (by omega)
      obtain ⟨t, ht⟩ : ∃ t, cntG (xs ++ zy) = t := ⟨_, rfl⟩
      rw [hcnt, ht] at HT
      have tt : ((t : Int) != (t : Int)) = false := by simp
      clear tx ty hta hcnt ht
      go_wp2_with (first
        | (go_at_call 33; with_reducible refine (HX.out _ D.out).mono ?_; rintro e w5 ⟨rfl, hf⟩; replace D := Lib.hid (D.out.then_ hf); clear hf)
        | (go_at_call 33; with_reducible refine (HY.out _ D.out).mono ?_; rintro e w5 ⟨rfl, hf⟩; replace D := Lib.hid (D.out.then_ hf); clear hf)
        | (go_at_call 33; with_reducible refine (HB.out _ D.out).mono ?_; rintro e w5 ⟨rfl, hf⟩; replace D := Lib.hid (D.out.then_ hf); clear hf)
        | (go_at_call 36; refine (HT.out _ D.out).mono ?_; rintro e w5 ⟨rfl, rfl⟩))
      have RBC := Lib.hid (Rd.rows OpR.cs_len (by decide) RB4.out)
      have hab : (nx : Int) + (ny : Int) ≤ 240 := by omega
      clear HX HY HB HT
      go_loopw [10] (fun i wr => ∃ j : Nat, i = .int .i64 j ∧ j ≤ nx + ny ∧ Frm w4 wr fun _ => False) (fun i _ => nx + ny - (intOf i).toNat)
      case atStart => exact ⟨0, rfl, Nat.zero_le _, D.out⟩
      case round =>
        clear D
        obtain ⟨j, rfl, hj, hF⟩ := hrel
        have D := Lib.hid hF
        have j0 : (0 : Int) ≤ (j : Int) := by omega
        have j1 : (j : Int) ≤ (nx : Int) + (ny : Int) := by omega
        clear hF
        by_cases hlt : j < nx + ny
        · have j2 : (j : Int) < (nx : Int) + (ny : Int) := by omega
          obtain ⟨gb, ob, rfl, -, hc⟩ := RBC.out.2 (by omega)
          have hjl : j < (xs ++ zy).length := by rw [List.length_append]; have := HXL.out; have := HYL.out; omega
          have c0 : wr.cell? ⟨gb, ob + j * 7, none⟩ = some (.int .u8 (xs ++ zy)[j].k) := D.out.cell (hc j hjl 0 _ rfl) id
          have c3 : wr.cell? ⟨gb, ob + j * 7 + 3, none⟩ = some (.int .i64 (xs ++ zy)[j].t) := D.out.cell (hc j hjl 3 _ rfl) id
          have hwt := tidy_wait TB.out _ (List.getElem_mem hjl)
          obtain ⟨q0, q1⟩ := KB.out _ (List.getElem_mem hjl)
          obtain ⟨X, hX⟩ : ∃ X, (xs ++ zy)[j] = X := ⟨_, rfl⟩
          rw [hX] at c0 c3 hwt q0 q1
          obtain ⟨xk, xa, xo, xt, xfl, xfa, xg⟩ := X
          simp only at c0 c3 hwt q0 q1
          obtain ⟨q, rfl⟩ := Int.eq_ofNat_of_zero_le q0
          rw [Int.toNat_natCast] at hwt
          clear hc hX
          by_cases h17 : q = 17
          · subst h17
            have ht := hwt (.inl rfl)
            clear hwt
            go_wp2_with fail
            go_roundw
            case rel => exact ⟨j + 1, by go_num, by omega, D.out⟩
            case measure => simp [intOf]; omega
          · by_cases h21 : q = 21
            · subst h21
              have ht := hwt (.inr rfl)
              clear hwt
              go_wp2_with fail
              go_roundw
              case rel => exact ⟨j + 1, by go_num, by omega, D.out⟩
              case measure => simp [intOf]; omega
            · have e17 : ((q : Int) == 17) = false := by simp; omega
              have e21 : ((q : Int) == 21) = false := by simp; omega
              clear hwt h17 h21
              go_wp2_with fail
              go_roundw
              case rel => exact ⟨j + 1, by go_num, by omega, D.out⟩
              case measure => simp [intOf]; omega
        · obtain rfl : j = nx + ny := by omega
          clear hlt hj
          have RXC := Lib.hid (Rd.rows OpR.cs_len (by decide) RX4.out)
          clear RBC j0 j1
          go_wp2_with fail
          go_loopw [11] (fun i wr => ∃ k : Nat, i = .int .i64 ((k : Int) - 1) ∧ k ≤ nx ∧ Frm w4 wr fun _ => False) (fun i _ => (intOf i + 1).toNat)
          case atStart => exact ⟨nx, rfl, Nat.le_refl _, D.out⟩
          case round =>
            clear D
            obtain ⟨k, rfl, hk, hF⟩ := hrel
            have D := Lib.hid hF
            have k0 : (0 : Int) ≤ (k : Int) := by omega
            have k1 : (k : Int) ≤ (nx : Int) := by omega
            clear hF
            by_cases hk0 : k = 0
            · subst hk0
              go_wp2_with (go_at_call 31; refine (HL4.out _ D.out).mono ?_; rintro e w6 ⟨rfl, hf⟩)
              go_ret
              exact ⟨rfl, FW.out.then_ (D.out.then_ hf)⟩
            · have k2 : (1 : Int) ≤ (k : Int) := by omega
              have hkl : k - 1 < xs.length := by have := HXL.out; omega
              obtain ⟨gx, ox, hAx, hr1⟩ := RX4.out.one hkl HXL.out
              subst hAx
              have hcx : (nx : Int) ≤ (cx : Int) := by have := HCX.out; omega
              have hcx0 : (cx : Int) ≤ 9223372036854775807 := by have := SX.out.max; unfold maxLen at this; omega
              obtain ⟨X, hX⟩ : ∃ X, xs[k - 1]'hkl = X := ⟨_, rfl⟩
              have hr1' : Rd w4 w4.heap.size 7 (some ⟨gx, ox + (k - 1) * 7, none⟩) 1 (opsV [X]) := by rw [← hX]; exact hr1
              have hKX : 0 ≤ X.k ∧ X.k ≤ 255 := by rw [← hX]; exact KX.out _ (List.getElem_mem hkl)
              have HT1 := Lib.hid (takes_any (some ⟨gx, ox + (k - 1) * 7, none⟩) (k - (k - 1)) (cx - (k - 1)) [X] wr (by rw [show k - (k - 1) = 1 by omega]; exact hr1'.new_ D.out) (KOk.one hKX.1 hKX.2) (by omega))
              cases hg : isG X.k.toNat with
              | false =>
                have e1 : cntG [X] = 0 := by simp [cntG, hg, oneB]
                rw [e1] at HT1
                clear hg e1 hr1 hkl hX hr1' hKX
                go_wp2_with (go_at_call 36; with_reducible refine HT1.out.mono ?_; rintro e w6 ⟨rfl, rfl⟩)
                go_roundw
                case rel => (repeat apply Exists.intro); exact ⟨⟨k - 1, by go_num, by omega, D.out⟩, rfl⟩
                case measure => simp [intOf]; omega
              | true =>
                have e1 : cntG [X] = 1 := by simp [cntG, hg, oneB]
                have hless := tidy_less TX.out (k - 1) hkl (by rw [hX]; exact hg)
                rw [e1] at HT1
                rw [show k - 1 + 1 = k by omega] at hless
                have HLS := Lib.hid hless
                have RF := Lib.hid ((RX4.out.first (i := k - 1) (by omega)).new_ D.out)
                have KLS := Lib.hid ((KX.out.take (k - 1)).app (fun x hx => KX.out x (List.mem_of_mem_drop hx) : KOk (xs.drop k)))
                have RS : k < nx → Rd wr wr.heap.size 7 (some ⟨gx, ox + k * 7, none⟩) (nx - k) (opsV (xs.drop k)) := fun hlt => by
                  obtain ⟨g1, o1, he, h1⟩ := RX4.out.rest hlt
                  injection he with he
                  injection he with he1 he2
                  subst he1 he2
                  exact h1.new_ D.out
                have RN : ¬ k < nx → ∀ A w, Rd w w.heap.size 7 A (nx - k) (opsV (xs.drop k)) := fun hlt A w => by
                  have h1 : nx - k = 0 := by omega
                  have h2 : xs.drop k = [] := List.drop_eq_nil_of_le (by have := HXL.out; omega)
                  rw [h1, h2]
                  exact Rd.nil _ _ _ _
                have RS := Lib.hid RS
                have RN := Lib.hid RN
                clear hg e1 hr1 hkl hless hX hr1' hKX
                go_upto_region 21 with (go_at_call 36; with_reducible refine HT1.out.mono ?_; rintro e w6 ⟨rfl, rfl⟩)
                go_cut [14] from 97 to 126 (fun s14 wx => Less wr (k - 1 + (nx - k)) (xs.take (k - 1) ++ xs.drop k) s14 wx)
                case first =>
                  rename_i J K' hJ hK
                  by_cases hck : cx = k
                  · subst hck
                    exact less_a wr gx ox nx cx (xs.take (cx - 1)) (xs.drop cx) (by omega) (by omega) (by omega) hnx' RF.out (RN.out (by omega) _ _) hJ hK
                  · refine less_b wr gx ox nx cx k (xs.take (k - 1)) (xs.drop k) (by omega) (by omega) (by omega) hcx0 hnx' hck RF.out ?_ hJ hK
                    by_cases hlt : k < nx
                    · exact RS.out hlt
                    · exact RN.out hlt _ _
                case rest =>
                  obtain ⟨A6, c6, rfl, hS6, hF6⟩ := hcut
                  have HTL := Lib.hid (tidyp_any A6 (k - 1 + (nx - k)) c6 (xs.take (k - 1) ++ xs.drop k) wc (H.out.new_ (FW.out.then_ (D.out.then_ hF6))).t1 hS6.rd KLS.out (by omega))
                  rw [HLS.out] at HTL
                  have D2 := Lib.hid (D.out.then_ hF6)
                  clear hS6 hF6
                  go_wp2_with (first
                    | (go_at_call 33; with_reducible refine HTL.out.mono ?_; rintro e w7 ⟨rfl, hf⟩; replace D2 := Lib.hid (D2.out.then_ hf); clear hf)
                    | (go_at_call 31; refine (HL4.out _ D2.out).mono ?_; rintro e w8 ⟨rfl, hf⟩))
                  go_ret
                  exact ⟨rfl, FW.out.then_ (D2.out.then_ hf)⟩
end Go.Proofs.YtmjpaaippilioaaDoor
