import Derived.Test.YtaenclbbiodhfaaLnU
import Derived.Test.YtaenclbbiodhfaaLnQ
import Derived.Test.YtaenclbbiodhfaaLnW
import Derived.Test.YtaenclbbiodhfaaLnF
import Derived.Test.YtaenclbbiodhfaaCkE
import Derived.BigQuiet
namespace Go.Proofs.Ytaenclbbiodhfaa.Take
open Go.RowKit Go.Proofs.Ytaenclbbiodhfaa

theorem tight2_any (A B : Option Addr) (n k : Nat) (w : World) : Calls Try.prog 27 #[.slice A n n, .slice B k k] w fun e w' => e = .returned (.bool true) ∧ w = w' := by
  go_enter Try.func27, Try.ntmps27
  go_wp2
  go_ret
  exact ⟨rfl, rfl⟩
/-- What Same says of two such lists. -/
def SameAt (w : World) (A B : Option Addr) (n c c' : Nat) : Prop := ∀ w', Frm w w' (fun _ => False) → Calls Try.prog 26 #[.slice A n c, .slice B n c'] w' fun e w'' => e = .returned (.bool true) ∧ Frm w' w'' fun _ => False
theorem SameAt.at {w w' : World} {A B : Option Addr} {n c c' : Nat} (h : SameAt w A B n c c') (hf : Frm w w' fun _ => False) : Calls Try.prog 26 #[.slice A n c, .slice B n c'] w' fun e w'' => e = .returned (.bool true) ∧ Frm w' w'' fun _ => False := h w' hf
theorem sameAt {w : World} {A B : Option Addr} {n c c' : Nat} (xs : List En) (hr : Rd w w.heap.size 3 A n (ens xs)) (hr' : Rd w w.heap.size 3 B n (ens xs)) (hn : (n : Int) ≤ 1000) : SameAt w A B n c c' :=
  fun w' hf => same_ents A B n c c' xs w' (hr.new_ hf) (hr'.new_ hf) hn
/-- What was asked, in a variable. -/
structure Zc (w : World) (g : Nat) (most : Int) (X : Option Addr) (m cx : Nat) (dst : Int) : Prop where
  a : w.cell? ⟨g, 0, none⟩ = some (.int .i64 most)
  b : w.cell? ⟨g, 1, none⟩ = some (.slice X m cx)
  c : w.cell? ⟨g, 2, none⟩ = some (.int .u32 dst)
theorem Zc.frm {w w' : World} {g : Nat} {most : Int} {X : Option Addr} {m cx : Nat} {dst : Int} {S : Nat → Prop} (h : Zc w g most X m cx dst) (hf : Frm w w' S) (hn : ¬ S g) : Zc w' g most X m cx dst := ⟨hf.cell h.a hn, hf.cell h.b hn, hf.cell h.c hn⟩
/-- Lists of the call's own, and between which sizes of the heap each was laid. -/
structure Own1 (w : World) (lo hi : Nat) (A : Option Addr) (n c : Nat) (ys : List En) : Prop where
  s : Sl w lo 3 A n c (ens ys)
  hi : ∀ j, blk A j → j < hi
theorem Own1.frm {w w' : World} {lo hi n c : Nat} {A : Option Addr} {ys : List En} {S : Nat → Prop} (h : Own1 w lo hi A n c ys) (hf : Frm w w' S) (hS : ∀ j, blk A j → ¬ S j) : Own1 w' lo hi A n c ys := ⟨h.s.frm hf hS, h.hi⟩
theorem Own1.new_ {w w' : World} {lo hi n c : Nat} {A : Option Addr} {ys : List En} (h : Own1 w lo hi A n c ys) (hf : Frm w w' fun _ => False) : Own1 w' lo hi A n c ys := h.frm hf (fun _ _ => id)
theorem own1 {w : World} {lo n c : Nat} {A : Option Addr} {ys : List En} (h : Sl w lo 3 A n c (ens ys)) : Own1 w lo w.heap.size A n c ys := ⟨h, fun _ hj => (h.ge hj).2⟩
set_option maxRecDepth 100000 in
set_option maxHeartbeats 4000000 in
theorem walk (A X : Option Addr) (n c m cx : Nat) (key most dst : Int) (xs : List En) (ch : List Nat) (w : World) (hr : Rd w w.heap.size 3 A n (ens xs)) (hch : Rd w w.heap.size 1 X m (bz ch)) (hu : ∀ c ∈ ch, c ≤ 255) (hX : ∀ j, blk X j → j < w.heap.size) (hA : ∀ j, blk A j → j < w.heap.size) (hmost : most ≤ 9223372036854775807) (hrl : (n : Int) ≤ 9223372036854775807) (hml : (m : Int) ≤ 9223372036854775807) :
    Calls Try.prog 5 #[.slice A n c, .int .u32 key, .agg #[.int .i64 most, .slice X m cx, .int .u32 dst]] w fun e w' => e = .returned (.bool true) ∧ Frm w w' fun _ => False := by
  by_cases h100 : (100 : Int) < (n : Int)
  · go_enter Try.func5, Try.ntmps5
    go_wp2_with (go_at_call 14; refine (llives_any _).mono ?_; rintro e w' ⟨rfl, hf⟩)
    go_ret
    exact ⟨rfl, ((Frm.refl _ _).alloc _).then_ hf⟩
  by_cases h200 : (200 : Int) < (m : Int)
  · have h100' : (n : Int) ≤ 100 := by omega
    clear h100
    go_enter Try.func5, Try.ntmps5
    go_wp2_with (go_at_call 14; refine (llives_any _).mono ?_; rintro e w' ⟨rfl, hf⟩)
    go_ret
    exact ⟨rfl, ((Frm.refl _ _).alloc _).then_ hf⟩
  have h100' : (n : Int) ≤ 100 := by omega
  have h200' : (m : Int) ≤ 200 := by omega
  have HR := Lib.hid hr
  have HCH := Lib.hid hch
  have HU := Lib.hid hu
  have HN : Hid ((n : Int) ≤ 100) := h100'
  have HM : Hid ((m : Int) ≤ 200) := h200'
  have HX := Lib.hid hX
  have HA := Lib.hid hA
  have HMO := Lib.hid hmost
  clear hr hch hu hX hA hmost h100 h200 hrl hml
  go_enter Try.func5, Try.ntmps5
  go_wp2_with fail
  have F00 : Hid (Frm w (w.alloc (.cells #[.int .i64 most, .slice X m cx, .int .u32 dst] 56)) fun _ => False) := (Frm.refl _ _).alloc _
  have Z : Hid (Zc (w.alloc (.cells #[.int .i64 most, .slice X m cx, .int .u32 dst] 56)) w.heap.size most X m cx dst) := ⟨by rw [World.cell?_alloc_new]; rfl, by rw [World.cell?_alloc_new]; rfl, by rw [World.cell?_alloc_new]; rfl⟩
  refine (others_any A n c xs _ (HR.out.new_ F00.out) (by have := HN.out; omega)).mono ?_
  rintro e w1 ⟨Am, cm, rfl, hS, hF⟩
  have F0 := Lib.hid (F00.out.then_ hF)
  replace Z := Lib.hid (Z.out.frm hF id)
  have SM := Lib.hid (own1 hS)
  have SM1 := SM
  have R1 := Lib.hid (HR.out.new_ F0.out)
  have C1 := Lib.hid (HCH.out.new_ F0.out)
  have A1 : Hid (∀ j, blk A j → j < w1.heap.size) := fun j hj => by have := HA.out j hj; have := F0.out.size; omega
  have X1 : Hid (∀ j, blk X j → j < w1.heap.size) := fun j hj => by have := HX.out j hj; have := F0.out.size; omega
  have LW : Hid (w.heap.size < w1.heap.size) := by have := hF.size; simp at this; show _ < _; omega
  obtain ⟨z0, z1, z2⟩ := Z.out
  clear hS hF F00 HR HCH HA HX
  go_wp2_with fail
  refine (some_any A n c key most HMO.out xs w1 R1.out (by have := HN.out; omega) A1.out).mono ?_
  rintro e w2 ⟨v, Aa, Ab, rfl, hP, hF⟩
  obtain ⟨hv, ha, hb, hd⟩ := hP
  obtain ⟨ta, hta⟩ : ∃ l, smTaken key most xs = l := ⟨_, rfl⟩
  obtain ⟨tb, htb⟩ : ∃ l, smLeft key most xs = l := ⟨_, rfl⟩
  rw [hta] at ha hv
  rw [htb] at hb hv
  obtain ⟨la, hla⟩ : ∃ l, ta.length = l := ⟨_, rfl⟩
  obtain ⟨lb, hlb⟩ : ∃ l, tb.length = l := ⟨_, rfl⟩
  rw [hla] at ha hv
  rw [hlb] at hb hv
  subst hv
  have HTA := Lib.hid hta
  have HTB := Lib.hid htb
  have HLA := Lib.hid hla
  have HLB := Lib.hid hlb
  have SA := Lib.hid (own1 ha)
  have SB := Lib.hid (own1 hb)
  have DAB := Lib.hid hd
  have F := Lib.hid hF
  have L1 := Lib.hid hF.size
  replace SM := Lib.hid (SM.out.new_ hF)
  replace Z := Lib.hid (Z.out.frm hF id)
  clear ha hb hd hF hta htb hla hlb z0 z1 z2
  obtain ⟨z0, z1, z2⟩ := Z.out
  go_wp2_with fail
  refine (rsome_any Am n cm key most xs w2 SM.out.s.rd (by have := HN.out; omega)).mono ?_
  rintro e w3 ⟨Ac, cc, Ad, cd, rfl, hP⟩
  obtain ⟨hc, hd, _, hF⟩ := hP
  rw [show sel (smSo key most xs) xs xs.length = ta from HTA.out] at hc
  rw [show sel (fun i => !(smSo key most xs i)) xs xs.length = tb from HTB.out] at hd
  rw [HLA.out] at hc
  rw [HLB.out] at hd
  rw [HTA.out, HTB.out, HLA.out, HLB.out]
  have SC := Lib.hid (own1 hc)
  have SD := Lib.hid (own1 hd)
  have L2 := Lib.hid hF.size
  replace F := Lib.hid (F.out.then_ hF)
  replace SM := Lib.hid (SM.out.new_ hF)
  replace SA := Lib.hid (SA.out.new_ hF)
  replace SB := Lib.hid (SB.out.new_ hF)
  replace Z := Lib.hid (Z.out.frm hF id)
  clear hc hd hF z0 z1 z2
  obtain ⟨z0, z1, z2⟩ := Z.out
  go_wp2_with fail
  have L3 : Hid (w1.heap.size ≤ w3.heap.size) := F.out.size
  have FA : Hid (Frm w3 (w3.alloc (.cells #[.slice X m cx, .slice none 0 0] 30)) fun _ => False) := (Frm.refl _ _).alloc _
  replace F := Lib.hid (F.out.then_ FA.out)
  refine (chosen_any A X n c m cx w3.heap.size key xs ch _ (R1.out.new_ F.out) (by have := HN.out; omega) (C1.out.new_ F.out) HU.out
    (fun j hj => by have := X1.out j hj; have := L3.out; constructor; · omega
                    · simp; omega)
    (fun j hj => by have := A1.out j hj; have := L3.out; constructor; · omega
                    · simp; omega)
    (by simp) (by simp) (by simp)).mono ?_
  rintro e w4 ⟨v, Ax, Ay, A', cap', rfl, hP, hrow, hF, _⟩
  obtain ⟨hv, hx, hy, hd⟩ := hP
  obtain ⟨tx, htx⟩ : ∃ l, chTaken ch key xs = l := ⟨_, rfl⟩
  obtain ⟨ty, hty⟩ : ∃ l, chLeft ch key xs = l := ⟨_, rfl⟩
  rw [htx] at hx hv
  rw [hty] at hy hv
  obtain ⟨lx, hlx⟩ : ∃ l, tx.length = l := ⟨_, rfl⟩
  obtain ⟨ly, hly⟩ : ∃ l, ty.length = l := ⟨_, rfl⟩
  rw [hlx] at hx hv
  rw [hly] at hy hv
  subst hv
  have HTX := Lib.hid htx
  have HTY := Lib.hid hty
  have HLX := Lib.hid hlx
  have HLY := Lib.hid hly
  replace hx := hx.mono (B' := w3.heap.size + 1) (by simp)
  replace hy := hy.mono (B' := w3.heap.size + 1) (by simp)
  have SX := Lib.hid (own1 hx)
  have SY := Lib.hid (own1 hy)
  have DXY := Lib.hid hd
  have RC := hrow.c0
  replace F := Lib.hid (F.out.fresh hF (fun j hj => by have := L3.out; omega))
  replace SM := Lib.hid ((SM.out.new_ FA.out).frm hF (fun j hj => by have := SM.out.hi j hj; have := L1.out; have := L2.out; omega))
  replace SA := Lib.hid ((SA.out.new_ FA.out).frm hF (fun j hj => by have := SA.out.hi j hj; have := L2.out; omega))
  replace SB := Lib.hid ((SB.out.new_ FA.out).frm hF (fun j hj => by have := SB.out.hi j hj; have := L2.out; omega))
  replace SC := Lib.hid ((SC.out.new_ FA.out).frm hF (fun j hj => by have := SC.out.hi j hj; omega))
  replace SD := Lib.hid ((SD.out.new_ FA.out).frm hF (fun j hj => by have := SD.out.hi j hj; omega))
  replace Z := Lib.hid ((Z.out.frm FA.out id).frm hF (by have := LW.out; have := L3.out; omega))
  have L4 : Hid (w3.heap.size + 1 ≤ w4.heap.size) := by have := hF.size; simp at this; show _ ≤ _; omega
  clear hx hy hd hF htx hty hlx hly z0 z1 z2 hrow FA
  obtain ⟨z0, z1, z2⟩ := Z.out
  go_wp2_with fail
  refine (ints_any X m cx w3.heap.size ch w4 (C1.out.new_ F.out) (by have := HM.out; omega) HU.out RC).mono ?_
  rintro e w5 ⟨Ai, ci, rfl, hs, hF⟩
  have SI := Lib.hid hs
  replace F := Lib.hid (F.out.then_ hF)
  replace SM := Lib.hid (SM.out.new_ hF)
  replace SA := Lib.hid (SA.out.new_ hF)
  replace SB := Lib.hid (SB.out.new_ hF)
  replace SC := Lib.hid (SC.out.new_ hF)
  replace SD := Lib.hid (SD.out.new_ hF)
  replace SX := Lib.hid (SX.out.new_ hF)
  replace SY := Lib.hid (SY.out.new_ hF)
  replace Z := Lib.hid (Z.out.frm hF id)
  have L45 := Lib.hid hF.size
  clear hs hF z0 z1 z2 RC
  obtain ⟨z0, z1, z2⟩ := Z.out
  go_wp2_with fail
  refine (rchosen_any Am Ai n cm m ci key xs ch w5 SM.out.s.rd (by have := HN.out; omega) SI.out.rd (by have := HM.out; omega)).mono ?_
  rintro e w6 ⟨Av, cv, Aw, cw, rfl, hP⟩
  obtain ⟨hv, hw, _, hF⟩ := hP
  rw [show sel (chSo ch key xs) xs xs.length = tx from HTX.out, HLX.out] at hv
  rw [show sel (fun i => !(chSo ch key xs i)) xs xs.length = ty from HTY.out, HLY.out] at hw
  rw [HTX.out, HTY.out, HLX.out, HLY.out]
  have SV := Lib.hid (own1 hv)
  have SW := Lib.hid (own1 hw)
  replace F := Lib.hid (F.out.then_ hF)
  replace SM := Lib.hid (SM.out.new_ hF)
  replace SA := Lib.hid (SA.out.new_ hF)
  replace SB := Lib.hid (SB.out.new_ hF)
  replace SC := Lib.hid (SC.out.new_ hF)
  replace SD := Lib.hid (SD.out.new_ hF)
  replace SX := Lib.hid (SX.out.new_ hF)
  replace SY := Lib.hid (SY.out.new_ hF)
  replace Z := Lib.hid (Z.out.frm hF id)
  have L46 : Hid (w4.heap.size ≤ w6.heap.size) := by have := hF.size; have := L45.out; show _ ≤ _; omega
  clear hv hw hF z0 z1 z2 SI
  obtain ⟨z0, z1, z2⟩ := Z.out
  go_wp2_with fail
  have HB : Hid (la ≤ 100 ∧ lb ≤ 100 ∧ lx ≤ 100 ∧ ly ≤ 100) := by
    have h0 := (Rd.ens R1.out).1
    have h1 := sel_le (smSo key most xs) xs xs.length
    have h2 := sel_le (fun i => !(smSo key most xs i)) xs xs.length
    have h3 := sel_le (chSo ch key xs) xs xs.length
    have h4 := sel_le (fun i => !(chSo ch key xs i)) xs xs.length
    have := HN.out
    rw [show sel (smSo key most xs) xs xs.length = ta from HTA.out, HLA.out] at h1
    rw [show sel (fun i => !(smSo key most xs i)) xs xs.length = tb from HTB.out, HLB.out] at h2
    rw [show sel (chSo ch key xs) xs xs.length = tx from HTX.out, HLX.out] at h3
    rw [show sel (fun i => !(chSo ch key xs i)) xs xs.length = ty from HTY.out, HLY.out] at h4
    show _ ∧ _
    omega
  have E1 : Hid (SameAt w6 Aa Ac la la cc) := sameAt ta SA.out.s.rd SC.out.s.rd (by have := HB.out; omega)
  have E2 : Hid (SameAt w6 Ab Ad lb lb cd) := sameAt tb SB.out.s.rd SD.out.s.rd (by have := HB.out; omega)
  have E3 : Hid (SameAt w6 Ax Av lx lx cv) := sameAt tx SX.out.s.rd SV.out.s.rd (by have := HB.out; omega)
  have E4 : Hid (SameAt w6 Ay Aw ly ly cw) := sameAt ty SY.out.s.rd SW.out.s.rd (by have := HB.out; omega)
  have G := Lib.hid (Frm.refl w6 fun _ => False)
  clear z0 z1 z2
  have z2 := Z.out.c
  go_wp2_with (first
    | (go_at_call 26; (first | (with_reducible refine (SameAt.at E1.out G.out).mono ?_) | (with_reducible refine (SameAt.at E2.out G.out).mono ?_) | (with_reducible refine (SameAt.at E3.out G.out).mono ?_) | (with_reducible refine (SameAt.at E4.out G.out).mono ?_)); rintro e w7 ⟨rfl, hF⟩; replace G := Lib.hid (G.out.then_ hF); clear hF; try clear z2; have z2 := G.out.cell Z.out.c id)
    | (go_at_call 27; refine (tight2_any _ _ _ _ _).mono ?_; rintro e w7 ⟨rfl, rfl⟩))
  clear z2
  refine (moved_any A Ax n c lx lx dst xs tx _ (R1.out.new_ (F.out.then_ G.out)) (SX.out.s.rd.new_ G.out) (by have := HN.out; omega) (by have := HB.out; omega)).mono ?_
  rintro e w8 ⟨At, rfl, hs, hF⟩
  have LT := Lib.hid G.out.size
  have ST := Lib.hid (own1 hs)
  have L78 := Lib.hid hF.size
  replace G := Lib.hid (G.out.then_ hF)
  have z2 := G.out.cell Z.out.c id
  clear hs hF
  go_wp2_with fail
  refine (rmoved_any Am Av n cm lx cv dst xs tx w8 (SM.out.s.rd.new_ G.out) (SV.out.s.rd.new_ G.out) (by have := HN.out; omega) (by have := HB.out; omega)).mono ?_
  rintro e w9 ⟨Ar, cr, rfl, hs, hF⟩
  have E5 : Hid (SameAt w9 At Ar (n + lx) (n + lx) cr) := sameAt _ (ST.out.s.rd.new_ hF) hs.rd (by have := HN.out; have := HB.out; omega)
  replace G := Lib.hid (G.out.then_ hF)
  replace ST := Lib.hid (ST.out.new_ hF)
  have G9 := Lib.hid (Frm.refl w9 fun _ => False)
  have L89 := Lib.hid hF.size
  clear hs hF z2
  go_wp2_with (first
    | (go_at_call 26; (first | (with_reducible refine (SameAt.at E5.out G9.out).mono ?_) | (with_reducible refine (SameAt.at E3.out G.out).mono ?_)); rintro e w7 ⟨rfl, hF⟩; replace G := Lib.hid (G.out.then_ hF); replace G9 := Lib.hid (G9.out.then_ hF); replace ST := Lib.hid (ST.out.new_ hF); clear hF)
    | (go_at_call 27; refine (tight_any _ _ _).mono ?_; rintro e w7 ⟨rfl, rfl⟩))
  refine (chosen_nil A n c key xs _ (R1.out.new_ (F.out.then_ G.out)) (by have := HN.out; omega)).mono ?_
  rintro e wa ⟨Ao, Ap, rfl, hs, hF⟩
  have L9a := Lib.hid G9.out.size
  replace G := Lib.hid (G.out.then_ hF)
  replace ST := Lib.hid (ST.out.new_ hF)
  have SP := Lib.hid (own1 hs)
  clear hs hF G9
  go_wp2_with (go_at_call 26; refine (same_ents Ap Am n n cm xs _ SP.out.s.rd (SM.out.s.rd.new_ G.out) (by have := HN.out; omega)).mono ?_; rintro e wb ⟨rfl, hF⟩; replace G := Lib.hid (G.out.then_ hF); replace ST := Lib.hid (ST.out.new_ hF); replace SP := Lib.hid (SP.out.new_ hF); clear hF)
  replace SA := Lib.hid (SA.out.new_ G.out)
  replace SB := Lib.hid (SB.out.new_ G.out)
  replace SX := Lib.hid (SX.out.new_ G.out)
  replace SY := Lib.hid (SY.out.new_ G.out)
  have FW := Lib.hid (F.out.then_ G.out)
  refine (spoil_any _ Aa la la (ens ta) _ SA.out.s (by have := HB.out; have := HN.out; omega)).mono ?_
  rintro e p0 ⟨rfl, hF⟩
  replace FW := Lib.hid (FW.out.fresh hF (fun j hj => by have := (SA.out.s.ge hj).1; have := L1.out; have := L2.out; have := L4.out; have := L46.out; have := LT.out; have := L78.out; have := L89.out; have := L9a.out; omega))
  replace SB := Lib.hid (SB.out.frm hF (fun j hj h => DAB.out j h hj))
  replace SX := Lib.hid (SX.out.frm hF (fun j hj h => by have := SA.out.hi j h; have := (SX.out.s.ge hj).1; have := L1.out; have := L2.out; have := L4.out; have := L46.out; have := LT.out; have := L78.out; have := L89.out; have := L9a.out; omega))
  replace SY := Lib.hid (SY.out.frm hF (fun j hj h => by have := SA.out.hi j h; have := (SY.out.s.ge hj).1; have := L1.out; have := L2.out; have := L4.out; have := L46.out; have := LT.out; have := L78.out; have := L89.out; have := L9a.out; omega))
  replace ST := Lib.hid (ST.out.frm hF (fun j hj h => by have := SA.out.hi j h; have := (ST.out.s.ge hj).1; have := L1.out; have := L2.out; have := L4.out; have := L46.out; have := LT.out; have := L78.out; have := L89.out; have := L9a.out; omega))
  replace SP := Lib.hid (SP.out.frm hF (fun j hj h => by have := SA.out.hi j h; have := (SP.out.s.ge hj).1; have := L1.out; have := L2.out; have := L4.out; have := L46.out; have := LT.out; have := L78.out; have := L89.out; have := L9a.out; omega))
  clear hF
  go_wp2_with fail
  refine (spoil_any _ Ab lb lb (ens tb) _ SB.out.s (by have := HB.out; have := HN.out; omega)).mono ?_
  rintro e p1 ⟨rfl, hF⟩
  replace FW := Lib.hid (FW.out.fresh hF (fun j hj => by have := (SB.out.s.ge hj).1; have := L1.out; have := L2.out; have := L4.out; have := L46.out; have := LT.out; have := L78.out; have := L89.out; have := L9a.out; omega))
  replace SX := Lib.hid (SX.out.frm hF (fun j hj h => by have := SB.out.hi j h; have := (SX.out.s.ge hj).1; have := L1.out; have := L2.out; have := L4.out; have := L46.out; have := LT.out; have := L78.out; have := L89.out; have := L9a.out; omega))
  replace SY := Lib.hid (SY.out.frm hF (fun j hj h => by have := SB.out.hi j h; have := (SY.out.s.ge hj).1; have := L1.out; have := L2.out; have := L4.out; have := L46.out; have := LT.out; have := L78.out; have := L89.out; have := L9a.out; omega))
  replace ST := Lib.hid (ST.out.frm hF (fun j hj h => by have := SB.out.hi j h; have := (ST.out.s.ge hj).1; have := L1.out; have := L2.out; have := L4.out; have := L46.out; have := LT.out; have := L78.out; have := L89.out; have := L9a.out; omega))
  replace SP := Lib.hid (SP.out.frm hF (fun j hj h => by have := SB.out.hi j h; have := (SP.out.s.ge hj).1; have := L1.out; have := L2.out; have := L4.out; have := L46.out; have := LT.out; have := L78.out; have := L89.out; have := L9a.out; omega))
  clear hF
  go_wp2_with fail
  refine (spoil_any _ Ax lx lx (ens tx) _ SX.out.s (by have := HB.out; have := HN.out; omega)).mono ?_
  rintro e p2 ⟨rfl, hF⟩
  replace FW := Lib.hid (FW.out.fresh hF (fun j hj => by have := (SX.out.s.ge hj).1; have := L1.out; have := L2.out; have := L4.out; have := L46.out; have := LT.out; have := L78.out; have := L89.out; have := L9a.out; omega))
  replace SY := Lib.hid (SY.out.frm hF (fun j hj h => DXY.out j h hj))
  replace ST := Lib.hid (ST.out.frm hF (fun j hj h => by have := SX.out.hi j h; have := (ST.out.s.ge hj).1; have := L1.out; have := L2.out; have := L4.out; have := L46.out; have := LT.out; have := L78.out; have := L89.out; have := L9a.out; omega))
  replace SP := Lib.hid (SP.out.frm hF (fun j hj h => by have := SX.out.hi j h; have := (SP.out.s.ge hj).1; have := L1.out; have := L2.out; have := L4.out; have := L46.out; have := LT.out; have := L78.out; have := L89.out; have := L9a.out; omega))
  clear hF
  go_wp2_with fail
  refine (spoil_any _ Ay ly ly (ens ty) _ SY.out.s (by have := HB.out; have := HN.out; omega)).mono ?_
  rintro e p3 ⟨rfl, hF⟩
  replace FW := Lib.hid (FW.out.fresh hF (fun j hj => by have := (SY.out.s.ge hj).1; have := L1.out; have := L2.out; have := L4.out; have := L46.out; have := LT.out; have := L78.out; have := L89.out; have := L9a.out; omega))
  replace ST := Lib.hid (ST.out.frm hF (fun j hj h => by have := SY.out.hi j h; have := (ST.out.s.ge hj).1; have := L1.out; have := L2.out; have := L4.out; have := L46.out; have := LT.out; have := L78.out; have := L89.out; have := L9a.out; omega))
  replace SP := Lib.hid (SP.out.frm hF (fun j hj h => by have := SY.out.hi j h; have := (SP.out.s.ge hj).1; have := L1.out; have := L2.out; have := L4.out; have := L46.out; have := LT.out; have := L78.out; have := L89.out; have := L9a.out; omega))
  clear hF
  go_wp2_with fail
  refine (spoil_any _ At (n + lx) (n + lx) (_) _ ST.out.s (by have := HB.out; have := HN.out; omega)).mono ?_
  rintro e p4 ⟨rfl, hF⟩
  replace FW := Lib.hid (FW.out.fresh hF (fun j hj => by have := (ST.out.s.ge hj).1; have := L1.out; have := L2.out; have := L4.out; have := L46.out; have := LT.out; have := L78.out; have := L89.out; have := L9a.out; omega))
  replace SP := Lib.hid (SP.out.frm hF (fun j hj h => by have := ST.out.hi j h; have := (SP.out.s.ge hj).1; have := L1.out; have := L2.out; have := L4.out; have := L46.out; have := LT.out; have := L78.out; have := L89.out; have := L9a.out; omega))
  clear hF
  go_wp2_with fail
  refine (spoil_any _ Ap n n (ens xs) _ SP.out.s (by have := HB.out; have := HN.out; omega)).mono ?_
  rintro e p5 ⟨rfl, hF⟩
  replace FW := Lib.hid (FW.out.fresh hF (fun j hj => by have := (SP.out.s.ge hj).1; have := L1.out; have := L2.out; have := L4.out; have := L46.out; have := LT.out; have := L78.out; have := L89.out; have := L9a.out; omega))
  clear hF
  clear SP
  go_wp2_with (first
    | (go_at_call 26; refine (same_ents A Am n c cm xs _ (R1.out.new_ FW.out) (SM1.out.s.rd.new_ FW.out) (by have := HN.out; omega)).mono ?_; rintro e wy ⟨rfl, hF⟩; replace FW := Lib.hid (FW.out.then_ hF); clear hF)
    | (go_at_call 14; refine (llives_any _).mono ?_; rintro e wz ⟨rfl, hF⟩; replace FW := Lib.hid (FW.out.then_ hF); clear hF))
  go_ret
  exact ⟨rfl, F0.out.then_ FW.out⟩
end Go.Proofs.Ytaenclbbiodhfaa.Take
