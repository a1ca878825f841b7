import Derived.Test.YtmjpaaippilioaaDoorPgZ
import Derived.Test.YtmjpaaippilioaaDoorOpr
namespace Go.Proofs.YtmjpaaippilioaaDoor
open Go.RowKit Go.MapKept

def OpR.cs (x : OpR) : List Value := [.int .u8 x.k, .int .i64 x.a, .int .i64 x.o, .int .i64 x.t, .bool x.fl, .bool x.fa, .int .i64 x.g]
theorem OpR.cs_len (x : OpR) : x.cs.length = 7 := rfl
/-- All tables lie in the world. -/
structure T1 (w : World) : Prop where
  tabs : Tabs w Ut
  gives : Gives w
  size : 4 < w.heap.size
theorem T1.new_ {w w' : World} (h : T1 w) (hf : Frm w w' fun _ => False) : T1 w' := ⟨h.tabs.new_ hf, h.gives.frm hf id, Nat.lt_of_lt_of_le h.size hf.size⟩
set_option maxRecDepth 100000 in
set_option maxHeartbeats 4000000 in
theorem tidyp_any (A : Option Addr) (n c : Nat) (xs : List OpR) (w : World) (h1 : T1 w) (hr : Rd w w.heap.size 7 A n (xs.flatMap OpR.cs)) (hk : ∀ x ∈ xs, 0 ≤ x.k ∧ x.k ≤ 255) (hn : n ≤ 1000) :
    Calls Tryd.prog 33 #[.slice A n c] w fun e w' => e = .returned (.bool (tidyO xs)) ∧ Frm w w' fun _ => False := by
  obtain ⟨hxl, hxc⟩ := Rd.rows OpR.cs_len (by decide) hr
  have HXL := Lib.hid hxl
  have HXC := Lib.hid hxc
  have HK := Lib.hid hk
  have H1 := Lib.hid h1
  obtain ⟨w1, hmk, hM1, hf1⟩ := MpS.made (P := Tryd.prog) (κ := Th) (kv := th2V) (t := 93) (K := 126) (e := 3) (by kernel_rfl) w
  have hb2 := h1.size
  obtain ⟨b, hb⟩ : ∃ b, w.heap.size = b := ⟨_, rfl⟩
  have HWB := Lib.hid hb
  rw [hb] at hmk hM1 hb2
  have HB2 := Lib.hid hb2
  have hn' : (n : Int) ≤ 1000 := by omega
  clear hxl hxc hk h1 hr hb hb2
  go_enter Tryd.func33, Tryd.ntmps33
  go_wp2_with fail
  go_loopw [9] (fun i wr => ∃ (k : Nat) (l : List Th), i = .int .i64 k ∧ k ≤ n ∧ runT [] (xs.take k) = some l ∧ Small l ∧ MpS wr th2V b (oneV l) ∧ Frm w wr fun _ => False) (fun i _ => n - (intOf i).toNat)
  case atStart => exact ⟨0, [], rfl, Nat.zero_le _, rfl, (fun _ h => by cases h), hM1, hf1⟩
  case round =>
    clear hM1 hf1
    obtain ⟨k, l, rfl, hkn, hrun, hsm, hM, hF⟩ := hrel
    have HR := Lib.hid hrun
    have HSM := Lib.hid hsm
    have HM := Lib.hid hM
    have F := Lib.hid hF
    clear hrun hsm hM hF
    by_cases hlk : k < n
    · have k0 : (0 : Int) ≤ (k : Int) := by omega
      have k1 : (k : Int) < (n : Int) := by omega
      obtain ⟨gx, ox, rfl, -, hxc⟩ := HXC.out (by omega)
      have hkx : k < xs.length := by have := HXL.out; omega
      have hcx := hxc k hkx
      obtain ⟨hq0, hq1⟩ := HK.out _ (List.getElem_mem hkx)
      have hsn : runT [] (xs.take (k + 1)) = stepT l xs[k] := by rw [List.take_succ_eq_append_getElem hkx]; exact runT_snoc _ _ _ _ HR.out
      obtain ⟨X, hX⟩ : ∃ x, xs[k] = x := ⟨_, rfl⟩
      rw [hX] at hcx hq0 hq1 hsn
      obtain ⟨q, hq⟩ : ∃ q : Nat, X.k = (q : Int) := ⟨X.k.toNat, (Int.toNat_of_nonneg hq0).symm⟩
      have hq8 : q < 256 := by omega
      have HSN := Lib.hid hsn
      have x0 := F.out.cell (hcx 0 _ rfl) id
      have x1 := F.out.cell (hcx 1 _ rfl) id
      have x2 := F.out.cell (hcx 2 _ rfl) id
      have x3 := F.out.cell (hcx 3 _ rfl) id
      have x4 := F.out.cell (hcx 4 _ rfl) id
      have x5 := F.out.cell (hcx 5 _ rfl) id
      have x6 := F.out.cell (hcx 6 _ rfl) id
      have hMay : ∀ v, (Frm wr v fun _ => False) → Calls Tryd.prog 46 #[X.V] v fun e w' => e = .returned (.bool (mayO Ut X)) ∧ Frm v w' fun _ => False := fun v hv => by
        have h2 := H1.out.new_ (F.out.then_ hv)
        exact mayP_any Ut X q hq hq8 v h2.tabs h2.size
      have hNx : mayO Ut X = true → ∀ v, (Frm wr v fun _ => False) → Nx b X (stepT l X).isSome ((stepT l X).getD l) v := fun hm v hv => by
        have h2 := H1.out.new_ (F.out.then_ hv)
        have hq26 : q < 26 := by have := (mayO_bounds hm).1; omega
        have := next_any b l HSM.out X q hq hq26 v (HM.out.frm hv id) HB2.out h2.tabs h2.size h2.gives
        unfold stepT
        rw [if_pos hm, hq, Int.toNat_natCast]
        exact this
      have HMay := Lib.hid hMay
      have HNx := Lib.hid hNx
      obtain ⟨xk, xa, xo, xt, xfl, xfa, xg⟩ := X
      have hq : xk = (q : Int) := hq
      subst hq
      replace x0 : wr.cell? ⟨gx, ox + k * 7, none⟩ = some (.int .u8 (q : Int)) := x0
      replace x1 : wr.cell? ⟨gx, ox + k * 7 + 1, none⟩ = some (.int .i64 xa) := x1
      replace x2 : wr.cell? ⟨gx, ox + k * 7 + 2, none⟩ = some (.int .i64 xo) := x2
      replace x3 : wr.cell? ⟨gx, ox + k * 7 + 3, none⟩ = some (.int .i64 xt) := x3
      replace x4 : wr.cell? ⟨gx, ox + k * 7 + 4, none⟩ = some (.bool xfl) := x4
      replace x5 : wr.cell? ⟨gx, ox + k * 7 + 5, none⟩ = some (.bool xfa) := x5
      replace x6 : wr.cell? ⟨gx, ox + k * 7 + 6, none⟩ = some (.int .i64 xg) := x6
      clear hxc hcx hq0 hq1 hsn hX hMay hNx hq8
      go_upto_region 5 with fail
      refine at_world' ?_
      intro W hW
      have hG : Frm wr W fun _ => False := by
        rw [hW]
        repeat (first | exact Frm.refl _ _ | with_reducible refine Frm.drew ?_ | with_reducible refine Frm.alloc ?_ _ | with_reducible refine Frm.setCell ?_ (fun h => absurd h (Nat.lt_irrefl _)) _)
      have p0 : W.cell? ⟨wr.heap.size, 0, none⟩ = some (.int .u8 (q : Int)) := by subst hW; go_simp
      have p1 : W.cell? ⟨wr.heap.size, 1, none⟩ = some (.int .i64 xa) := by subst hW; go_simp
      have p2 : W.cell? ⟨wr.heap.size, 2, none⟩ = some (.int .i64 xo) := by subst hW; go_simp
      have p3 : W.cell? ⟨wr.heap.size, 3, none⟩ = some (.int .i64 xt) := by subst hW; go_simp
      have p4 : W.cell? ⟨wr.heap.size, 4, none⟩ = some (.bool xfl) := by subst hW; go_simp
      have p5 : W.cell? ⟨wr.heap.size, 5, none⟩ = some (.bool xfa) := by subst hW; go_simp
      have p6 : W.cell? ⟨wr.heap.size, 6, none⟩ = some (.int .i64 xg) := by subst hW; go_simp
      clear hW x0 x1 x2 x3 x4 x5 x6
      have HG := Lib.hid hG
      clear hG
      have HFail := Lib.hid fun (h : stepT l ⟨(q : Int), xa, xo, xt, xfl, xfa, xg⟩ = none) => (show tidyO xs = false from by
        have h3 := tidyO_fails (xs.take (k + 1)) (xs.drop (k + 1)) (HSN.out.trans h)
        rw [List.take_append_drop] at h3
        exact h3)
      obtain ⟨mv, hmv⟩ : ∃ m, mayO Ut ⟨(q : Int), xa, xo, xt, xfl, xfa, xg⟩ = m := ⟨_, rfl⟩
      have HMV := Lib.hid hmv
      rw [hmv] at HMay HNx
      clear hmv
      cases mv with
      | false =>
        have hno : stepT l ⟨(q : Int), xa, xo, xt, xfl, xfa, xg⟩ = none := by unfold stepT; rw [if_neg (by rw [HMV.out]; decide)]
        have HNO := Lib.hid (HFail.out hno)
        clear hno
        go_wp2_with (go_at_call 46; refine (HMay.out _ HG.out).mono ?_; rintro e w5 ⟨rfl, hf5⟩)
        go_ret
        exact ⟨by rw [HNO.out]; rfl, (F.out.then_ HG.out).then_ hf5⟩
      | true =>
        obtain ⟨st, hst⟩ : ∃ m, stepT l ⟨(q : Int), xa, xo, xt, xfl, xfa, xg⟩ = m := ⟨_, rfl⟩
        have HST := Lib.hid hst
        rw [hst] at HNx
        clear hst
        cases st with
        | none =>
          have hN : ∀ v, (Frm wr v fun _ => False) → Calls Tryd.prog 62 #[.map (some b), OpR.V ⟨(q : Int), xa, xo, xt, xfl, xfa, xg⟩] v fun e w' => e = .returned (.bool false) ∧ MpS w' th2V b (oneV l) ∧ Frm v w' fun j => j = b := fun v hv => HNx.out rfl v hv
          have HN := Lib.hid hN
          have HNO := Lib.hid (HFail.out HST.out)
          clear hN
          go_wp2_with (first
            | (go_at_call 46; refine (HMay.out _ HG.out).mono ?_; rintro e w5 ⟨rfl, hf5⟩
               replace p0 := hf5.cell p0 id
               replace p1 := hf5.cell p1 id
               replace p2 := hf5.cell p2 id
               replace p3 := hf5.cell p3 id
               replace p4 := hf5.cell p4 id
               replace p5 := hf5.cell p5 id
               replace p6 := hf5.cell p6 id)
            | (go_at_call 62; refine (HN.out _ (HG.out.then_ hf5)).mono ?_; rintro e w6 ⟨rfl, hM6, hf6⟩))
          go_ret
          exact ⟨by rw [HNO.out]; rfl, ((F.out.then_ HG.out).then_ hf5).fresh hf6 fun j (hj : j = b) => by have := HWB.out; omega⟩
        | some l' =>
          have hN : ∀ v, (Frm wr v fun _ => False) → Calls Tryd.prog 62 #[.map (some b), OpR.V ⟨(q : Int), xa, xo, xt, xfl, xfa, xg⟩] v fun e w' => e = .returned (.bool true) ∧ MpS w' th2V b (oneV l') ∧ Frm v w' fun j => j = b := fun v hv => HNx.out rfl v hv
          have HN := Lib.hid hN
          clear hN
          go_wp2_with (first
            | (go_at_call 46; refine (HMay.out _ HG.out).mono ?_; rintro e w5 ⟨rfl, hf5⟩
               replace p0 := hf5.cell p0 id
               replace p1 := hf5.cell p1 id
               replace p2 := hf5.cell p2 id
               replace p3 := hf5.cell p3 id
               replace p4 := hf5.cell p4 id
               replace p5 := hf5.cell p5 id
               replace p6 := hf5.cell p6 id)
            | (go_at_call 62; refine (HN.out _ (HG.out.then_ hf5)).mono ?_; rintro e w6 ⟨rfl, hM6, hf6⟩))
          go_roundw
          case rel => exact ⟨k + 1, l', by go_num, by omega, HSN.out.trans HST.out, small_step HSM.out HST.out, hM6, ((F.out.then_ HG.out).then_ hf5).fresh hf6 fun j (hj : j = b) => by have := HWB.out; omega⟩
          case measure => simp [intOf]; omega
    · obtain rfl : k = n := by omega
      have hlen := HM.out.len
      have hres : tidyO xs = ((l.length : Int) == 0) := by
        have h2 := HR.out
        rw [List.take_of_length_le (by have := HXL.out; omega)] at h2
        unfold tidyO
        rw [h2]
        cases l with
        | nil => rfl
        | cons a r =>
          have : (((a :: r).length : Int) == 0) = false := by rw [beq_eq_false_iff_ne]; simp; omega
          rw [this]
      rw [List.length_map] at hlen
      have HRS := Lib.hid hres
      clear hres
      go_wp2_with fail
      go_ret
      exact ⟨by rw [HRS.out]; rfl, F.out⟩
end Go.Proofs.YtmjpaaippilioaaDoor
