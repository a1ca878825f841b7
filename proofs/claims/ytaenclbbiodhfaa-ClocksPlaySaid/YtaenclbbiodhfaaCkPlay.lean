import Derived.Test.YtaenclbbiodhfaaCkT
import Derived.Test.YtaenclbbiodhfaaCkP
namespace Go.Proofs.Ytaenclbbiodhfaa.Play
open Go.RowKit Go.Proofs.Ytaenclbbiodhfaa

/-- An act in a variable. -/
structure Bx (w : World) (g : Nat) (x : Ac) : Prop where
  b0 : w.cell? ⟨g, 0, none⟩ = some (.int .u8 x.kd)
  b1 : w.cell? ⟨g, 1, none⟩ = some (.int .u64 x.n)
  b2 : w.cell? ⟨g, 2, none⟩ = some (.bool x.on)
  b3 : w.cell? ⟨g, 3, none⟩ = some (.int .u64 x.at_)
  b4 : w.cell? ⟨g, 4, none⟩ = some (.slice x.X x.m x.cx)
theorem Bx.frm {w w' : World} {g : Nat} {x : Ac} {S : Nat → Prop} (h : Bx w g x) (hf : Frm w w' S) (hn : ¬ S g) : Bx w' g x :=
  ⟨hf.cell h.b0 hn, hf.cell h.b1 hn, hf.cell h.b2 hn, hf.cell h.b3 hn, hf.cell h.b4 hn⟩
theorem sp1 {w w1 : World} {B size n cap : Nat} {A : Option Addr} {ys : List Value} (h : Appended w w1 B size none A n cap ys) : Frm w w1 fun _ => False := (Frm.refl w (fun _ => False)).fresh h.2.1 (fun _ hj => (blk_none _ hj).elim)

set_option maxRecDepth 100000 in
set_option maxHeartbeats 4000000 in
theorem walk (A0 : Option Addr) (len0 cap0 : Nat) (l0 : List Nat) (most : Nat) (A1 : Option Addr) (len1 cap1 : Nat) (xs : List Ac) (hm : U most) (w : World) (hr0 : Rd w w.heap.size 1 A0 len0 (us l0)) (hu0 : ∀ d ∈ l0, U d) (hc0 : len0 ≤ cap0)
    (hr1 : Rd w w.heap.size 5 A1 len1 (xs.flatMap Ac.V)) (hok : ∀ x ∈ xs, AcOk w x) (hl1 : len1 ≤ 9223372036854775807) :
    Calls Try.prog 9 #[.slice A0 len0 cap0, .int .u64 most, .slice A1 len1 cap1] w fun e w' => e = .returned (.bool true) ∧ Frm w w' fun _ => False := by
  by_cases h300 : (300 : Int) < (len0 : Int)
  · go_enter Try.func9, Try.ntmps9
    go_wp2_with (go_at_call 35; refine (lives_any _).mono ?_; rintro e w' ⟨rfl, hf⟩)
    go_ret
    exact ⟨rfl, hf⟩
  by_cases h100 : (100 : Int) < (len1 : Int)
  · have h300' : (len0 : Int) ≤ 300 := by omega
    clear h300
    go_enter Try.func9, Try.ntmps9
    go_wp2_with (go_at_call 35; refine (lives_any _).mono ?_; rintro e w' ⟨rfl, hf⟩)
    go_ret
    exact ⟨rfl, hf⟩
  have h300' : (len0 : Int) ≤ 300 := by omega
  have h100' : (len1 : Int) ≤ 100 := by omega
  obtain ⟨i33, hi, hz0, hz1, hz2⟩ := info_parts info33
  have R0 := Lib.hid hr0
  have R1 := Lib.hid hr1
  have HU0 := Lib.hid hu0
  have HOK := Lib.hid hok
  have HL0 := Lib.hid (Rd.cells hr0).1
  have FT : Fit 0 len0 := ⟨by omega⟩
  have FT' : Fit len0 0 := ⟨by omega⟩
  have r1 : 0 + len0 ≤ maxLen := FT'.room.1
  have r2 : (0 + len0) * 8 ≤ 140737488355328 := FT'.room.2.1
  clear h300 h100 hr0 hr1 hu0 hok
  go_enter Try.func9, Try.ntmps9
  go_wp2_with (at_builtin; refine wpList_append_sl _ rfl _ _ 28 rfl w.heap.size 33 i33 _ 1 8 Try.underlying28 hi hz0 hz1 hz2 rfl (by decide) none 0 0 [] rfl (Sl.nil _ _ _) _ _ _ (us l0) rfl R0.out (us_one l0) r1 r2 (by simp) ?_; intro A' cap' w1 hap; rw [Nat.zero_add, List.nil_append] at hap; replace hap := Lib.hid hap)
  refine (new_len most l0 len0 HL0.out.symm _ _ hm w1 hap.out.1.rd FT HU0.out).mono ?_
  rintro e w2 ⟨v, rfl, hnew⟩
  obtain ⟨b, A, cap, rfl, hclk, hf2, hb, hA⟩ := hnew
  have O : Hid (Own w w2 b A cap 0 most l0) := ⟨hclk, (sp1 hap.out).then_ hf2, Nat.le_trans (sp1 hap.out).size hb⟩
  have S := Lib.hid (hap.out.1.new_ hf2)
  have D1 := Lib.hid (show ∀ k, blk A' k → ¬ k = b ∧ ¬ blk A k from fun k hk => ⟨fun e => by have := (hap.out.1.ge hk).2; omega, fun e => by have := (hap.out.1.ge hk).2; have := hA k e; omega⟩)
  clear hclk hf2 hb hA hap
  go_wp2_with fail
  go_loopw [9] (fun i wr => ∃ (k : Nat) (ys : List Value), i = .int .i64 k ∧ k ≤ len0 ∧ Own w wr b A cap 0 most l0 ∧ Sl wr w.heap.size 1 A' len0 cap' ys) (fun i _ => len0 - (intOf i).toNat)
  case atStart => exact ⟨0, _, rfl, Nat.zero_le _, O.out, S.out⟩
  case round =>
    obtain ⟨k, ys, rfl, hk, hO, hS⟩ := hrel
    clear O S
    by_cases hlt : k < len0
    · have hle := hS.le
      obtain ⟨g, off, rfl, _, _, hcA, hfA⟩ := hS.form (by omega)
      have hzl : k < ys.length := by rw [hS.len]; omega
      obtain ⟨z, hz⟩ : ∃ z, ys[k]? = some z := ⟨_, List.getElem?_eq_getElem hzl⟩
      have d1 := hcA k z hz
      have d2 := hfA k
      have i0 : (0 : Int) ≤ (k : Int) := by omega
      have i1 : (k : Int) < (len0 : Int) := by omega
      have dj := D1.out g ((blk_some _ _ _).2 rfl)
      have hgw := (hS.ge ((blk_some g off g).2 rfl)).1
      have N1 := Lib.hid (hO.far (Frm.set1 wr g (off + k) (.int .u64 99)) (fun e => dj.1 e.symm) (fun j hj e => dj.2 (e ▸ hj)) (fun j e => e ▸ hgw))
      have N2 := Lib.hid (hS.set hzl (.int .u64 99))
      clear hO hS hcA hfA hz hzl dj hgw hle
      go_wp2_with fail
      go_roundw
      case rel => exact ⟨k + 1, _, by go_num, by omega, N1.out, N2.out⟩
      case measure => simp [intOf]; omega
    · obtain rfl : k = len0 := by omega
      have O := Lib.hid hO
      clear hO hS D1
      go_wp2_with fail
      refine (rnew_len most l0 k HL0.out.symm _ _ hm wr (R0.out.new_ O.out.frm) FT HU0.out hc0).mono ?_
      rintro e w3 ⟨v, rfl, hnew⟩
      obtain ⟨c, A2, cap2, rfl, T, _⟩ := Two.mk_ O.out hnew
      replace T := Lib.hid T
      clear hnew O
      go_wp2_with fail
      go_loopw [11, 12, 13, 14] (fun i _ _ _ wr => ∃ (k : Nat) (A : Option Addr) (cap : Nat) (A2 : Option Addr) (cap2 now : Nat) (ds : List Nat), i = .int .i64 k ∧ k ≤ len1 ∧ Two w wr b c A cap A2 cap2 now now most ds ds ∧ Hid (ds.length ≤ 300 + 300 * k)) (fun i _ _ _ _ => len1 - (intOf i).toNat)
      case atStart => exact ⟨0, _, _, _, _, _, _, rfl, Nat.zero_le _, T.out, (show l0.length ≤ _ by have := HL0.out; omega)⟩
      case round =>
        obtain ⟨k, A, cap, A2, cap2, now, ds, rfl, hk, hT, hds⟩ := hrel
        clear T
        have T := Lib.hid hT
        clear hT
        by_cases hlt : k < len1
        · obtain ⟨hlen, hrows⟩ := Rd.rows Ac.len (by decide) R1.out
          obtain ⟨g, off, rfl, _, hcell⟩ := hrows (by omega)
          have hkl : k < xs.length := by omega
          obtain ⟨x, hx⟩ : ∃ x, x = xs[k] := ⟨_, rfl⟩
          have hcell' := hcell k hkl
          rw [← hx] at hcell'
          have ok : AcOk w x := hx ▸ HOK.out _ (List.getElem_mem hkl)
          have q0 : wr.cell? ⟨g, off + k * 5, none⟩ = some (.int .u8 x.kd) := T.out.frm.cell (hcell' 0 _ rfl) id
          have q1 : wr.cell? ⟨g, off + k * 5 + 1, none⟩ = some (.int .u64 x.n) := T.out.frm.cell (hcell' 1 _ rfl) id
          have q2 : wr.cell? ⟨g, off + k * 5 + 2, none⟩ = some (.bool x.on) := T.out.frm.cell (hcell' 2 _ rfl) id
          have q3 : wr.cell? ⟨g, off + k * 5 + 3, none⟩ = some (.int .u64 x.at_) := T.out.frm.cell (hcell' 3 _ rfl) id
          have q4 : wr.cell? ⟨g, off + k * 5 + 4, none⟩ = some (.slice x.X x.m x.cx) := T.out.frm.cell (hcell' 4 _ rfl) id
          have i0 : (0 : Int) ≤ (k : Int) := by omega
          have i1 : (k : Int) < (len1 : Int) := by omega
          have OK := Lib.hid ok
          clear hrows hcell hcell' hx hlen ok
          go_upto_region 14 with fail
          refine at_world ?_
          intro W hW
          have hf : Frm wr W fun _ => False := by rw [hW]; exact (Frm.refl _ _).alloc _
          have B : Hid (Bx W wr.heap.size x) := ⟨by rw [hW, World.cell?_alloc_new]; rfl, by rw [hW, World.cell?_alloc_new]; rfl, by rw [hW, World.cell?_alloc_new]; rfl, by rw [hW, World.cell?_alloc_new]; rfl, by rw [hW, World.cell?_alloc_new]; rfl⟩
          have T1 := Lib.hid (T.out.new_ hf)
          have nb : ¬ wr.heap.size = b := by have := T.out.p.clk.lt; omega
          have nc : ¬ wr.heap.size = c := by have := T.out.r.clk.lt; omega
          have hgW : Hid (wr.heap.size < W.heap.size) := by show _ < _; rw [hW]; simp
          have b4 := B.out.b4
          have b0 := B.out.b0
          clear q0 q1 q2 q3 q4 hf hW
          by_cases h3 : (300 : Int) < (x.m : Int)
          · go_wp2_with (go_at_call 35; refine (lives_any _).mono ?_; rintro e w4 ⟨rfl, hf⟩; have F4 := Lib.hid (T1.out.frm.then_ hf); clear hf)
            go_ret
            exact ⟨rfl, F4.out⟩
          · have h3' : (x.m : Int) ≤ 300 := by omega
            clear h3
            have k0 := OK.out.k0
            have k1 := OK.out.k1
            by_cases hk0 : x.kd % 3 = 0
            · have t0 : (x.kd % 3 == 0) = true := by simp [hk0]
              obtain ⟨x1, x2, x3, x4, x5⟩ := B.out
              go_wp2_with (first
                | (go_at_call 37; refine (tick_any _ _ _ _ _ _ x.n OK.out.n _ T1.out.p.clk).mono ?_; rintro e w2 ⟨rfl, hc, hf⟩; have T2 := Lib.hid (T1.out.tickP hc hf); have B2 := Lib.hid (B.out.frm hf nb); obtain ⟨x20, x21, x22, x23, x24⟩ := B2.out; clear hc hf)
                | (go_at_call 45; refine (rtick_any _ _ _ _ _ _ x.n OK.out.n _ T2.out.r.clk).mono ?_; rintro e w3 ⟨rfl, hc, hf⟩; have T3 := Lib.hid (T2.out.tickR hc hf); have B3 := Lib.hid (B2.out.frm hf nc); obtain ⟨x30, x31, x32, x33, x34⟩ := B3.out; clear hc hf)
                | (go_at_call 48; refine (same_any _ _ _ _ _ _ _ _ _ x.kd x.n x.on x.at_ x.X x.m x.cx OK.out.n _ T3.out.p.clk T3.out.r.clk).mono ?_; rintro e w9 ⟨rfl, hf⟩; have T9 := Lib.hid (T3.out.new_ hf); clear hf))
              go_roundw
              case rel => exact ⟨k + 1, _, _, _, _, _, _, by go_num, by omega, T9.out, (show ds.length ≤ _ by have := hds.out; omega)⟩
              case measure => simp [intOf]; omega
            · have t0 : (x.kd % 3 == 0) = false := by simp [hk0]
              by_cases hk1 : x.kd % 3 = 1
              · have t1 : (x.kd % 3 == 1) = true := by simp [hk1]
                obtain ⟨dv, hdv⟩ : ∃ dv, drawOf most ds = dv := ⟨_, rfl⟩
                have HDV := Lib.hid hdv
                obtain ⟨x1, x2, x3, x4, x5⟩ := B.out
                clear hdv
                go_wp2_with (first
                  | (go_at_call 43; refine (draw_any _ _ _ most _ _ _ T1.out.p.clk).mono ?_; rw [HDV.out]; rintro e w2 ⟨rfl, hd⟩; have hf := hd.frm; obtain ⟨A5, c5, T2⟩ := T1.out.drawP hd; replace T2 := Lib.hid T2; have B2 := Lib.hid (B.out.frm hf nb); obtain ⟨x20, x21, x22, x23, x24⟩ := B2.out; clear hd hf)
                  | (go_at_call 46; refine (rdraw_any _ _ _ most _ _ _ T2.out.r.clk).mono ?_; rw [HDV.out]; rintro e w3 ⟨rfl, hd⟩; have hf := hd.frm; obtain ⟨A6, c6, T3⟩ := T2.out.drawR hd; replace T3 := Lib.hid T3; have B3 := Lib.hid (B2.out.frm hf nc); obtain ⟨x30, x31, x32, x33, x34⟩ := B3.out; clear hd hf)
                  | (go_at_call 48; refine (same_any _ _ _ _ _ _ _ _ _ x.kd x.n x.on x.at_ x.X x.m x.cx OK.out.n _ T3.out.p.clk T3.out.r.clk).mono ?_; rintro e w9 ⟨rfl, hf⟩; have T9 := Lib.hid (T3.out.new_ hf); clear hf))
                go_roundw
                case rel => exact ⟨k + 1, _, _, _, _, _, _, by go_num, by omega, T9.out, (show ds.tail.length ≤ _ by have := hds.out; rw [List.length_tail]; omega)⟩
                case measure => simp [intOf]; omega
              · have t1 : (x.kd % 3 == 1) = false := by simp [hk1]
                obtain ⟨wo, rfl⟩ : ∃ wo : World, wo = wr := ⟨_, rfl⟩
                have hxl := Lib.hid (Rd.cells OK.out.rd).1
                have FD : Fit x.m 0 := ⟨by omega⟩
                have FM : Fit ds.length x.m := ⟨by have := hds.out; omega⟩
                have r3 : 0 + x.m ≤ maxLen := FD.room.1
                have r4 : (0 + x.m) * 8 ≤ 140737488355328 := FD.room.2.1
                go_wp2_with (at_builtin; refine wpList_append_sl _ rfl _ _ 28 rfl W.heap.size 33 i33 _ 1 8 Try.underlying28 hi hz0 hz1 hz2 rfl (by decide) none 0 0 [] rfl (Sl.nil _ _ _) _ _ _ (us x.l) rfl (OK.out.rd.new_ T1.out.frm) (us_one x.l) r3 r4 (by simp) ?_; intro D cd w1 hap; rw [Nat.zero_add, List.nil_append] at hap; replace hap := Lib.hid hap)
                have T2 := Lib.hid (T1.out.new_ (sp1 hap.out))
                have B2 := Lib.hid (B.out.frm (sp1 hap.out) id)
                have hDb : Hid (∀ j, blk D j → W.heap.size ≤ j ∧ j < w1.heap.size) := fun j hj => hap.out.1.ge hj
                have hbl := Lib.hid (And.intro T1.out.p.clk.lt T1.out.r.clk.lt)
                have hA2 : Hid (∀ j, blk A2 j → j < W.heap.size) := fun j hj => (T1.out.r.clk.sl.ge hj).2
                have SD := Lib.hid hap.out.1
                clear T1 B hap
                refine (more_len _ _ _ most _ ds x.l ds.length x.m rfl hxl.out.symm _ _ w1 T2.out.p.clk SD.out.rd FM OK.out.u).mono ?_
                rintro e w2 ⟨rfl, hd⟩
                have hf := hd.frm
                obtain ⟨A5, c5, T3, hA5⟩ := T2.out.moreP hd
                replace T3 := Lib.hid T3
                replace hA5 := Lib.hid hA5
                have B3 := Lib.hid (B2.out.frm hf nb)
                have SD3 := Lib.hid (SD.out.frm hf (fun j hj e => by have := (hDb.out j hj).1; have := hbl.out.1; omega))
                clear hd hf T2 B2 SD
                go_wp2_with fail
                go_loopw [14] (fun i wr => ∃ (k2 : Nat) (ys : List Value), i = .int .i64 k2 ∧ k2 ≤ x.m ∧ Two w wr b c A5 c5 A2 cap2 now now most (ds ++ x.l) ds ∧ Sl wr W.heap.size 1 D x.m cd ys ∧ Bx wr wo.heap.size x) (fun i _ => x.m - (intOf i).toNat)
                case atStart => exact ⟨0, _, rfl, Nat.zero_le _, T3.out, SD3.out, B3.out⟩
                case round =>
                  clear T3 SD3 B3
                  obtain ⟨k2, ys, rfl, hk2, hT2, hS2, hB2⟩ := hrel
                  by_cases hlt2 : k2 < x.m
                  · have hle := hS2.le
                    obtain ⟨gd, od, rfl, _, _, hcA, hfA⟩ := hS2.form (by omega)
                    have hzl : k2 < ys.length := by rw [hS2.len]; omega
                    obtain ⟨z, hz⟩ : ∃ z, ys[k2]? = some z := ⟨_, List.getElem?_eq_getElem hzl⟩
                    have d1 := hcA k2 z hz
                    have d2 := hfA k2
                    have j0 : (0 : Int) ≤ (k2 : Int) := by omega
                    have j1 : (k2 : Int) < (x.m : Int) := by omega
                    have dj := hDb.out gd ((blk_some _ _ _).2 rfl)
                    have hww := T.out.frm.size
                    have hbl1 := hbl.out
                    have hgw := hgW.out
                    have N1 := Lib.hid (hT2.store (Frm.set1 wr gd (od + k2) (.int .u64 98)) (fun e => by omega) (fun e => by omega) (fun j hj e => by have := hA5.out j hj; omega) (fun j hj e => by have := hA2.out j hj; omega) (fun j e => by omega))
                    have N2 := Lib.hid (hS2.set hzl (.int .u64 98))
                    have N3 := Lib.hid (hB2.frm (Frm.set1 wr gd (od + k2) (.int .u64 98)) (fun e => by omega))
                    clear hT2 hS2 hB2 hcA hfA hz hzl dj hgw hle hww hbl1
                    go_wp2_with fail
                    go_roundw
                    case rel => exact ⟨k2 + 1, _, by go_num, by omega, N1.out, N2.out, N3.out⟩
                    case measure => simp [intOf]; omega
                  · obtain rfl : k2 = x.m := by omega
                    have T4 := Lib.hid hT2
                    have B4 := Lib.hid hB2
                    obtain ⟨x1, x2, x3, x4, x5⟩ := hB2
                    have hcx := OK.out.c
                    clear hT2 hS2
                    go_wp2_with (first
                      | (go_at_call 47; refine (rmore_len _ _ _ most _ ds x.l ds.length x.m rfl hxl.out.symm _ _ _ T4.out.r.clk (OK.out.rd.new_ T4.out.frm) FM OK.out.u hcx).mono ?_; rintro e w3 ⟨rfl, hd⟩; have hf := hd.frm; obtain ⟨A6, c6, T3, _⟩ := T4.out.moreR hd; replace T3 := Lib.hid T3; have B5 := Lib.hid (B4.out.frm hf nc); obtain ⟨x50, x51, x52, x53, x54⟩ := B5.out; clear hd hf)
                      | (go_at_call 48; refine (same_any _ _ _ _ _ _ _ _ _ x.kd x.n x.on x.at_ x.X x.m x.cx OK.out.n _ T3.out.p.clk T3.out.r.clk).mono ?_; rintro e w9 ⟨rfl, hf⟩; have T9 := Lib.hid (T3.out.new_ hf); clear hf))
                    go_roundw
                    case rel => exact ⟨k + 1, _, _, _, _, _, _, by go_num, by omega, T9.out, (show (ds ++ x.l).length ≤ _ by have := hds.out; have := hxl.out; rw [List.length_append]; omega)⟩
                    case measure => simp [intOf]; omega
        · obtain rfl : k = len1 := by omega
          go_wp2_with (go_at_call 35; refine (lives_any _).mono ?_; rintro e w4 ⟨rfl, hf⟩; have F4 := Lib.hid (T.out.frm.then_ hf); clear hf)
          go_ret
          exact ⟨rfl, F4.out⟩
end Go.Proofs.Ytaenclbbiodhfaa.Play
