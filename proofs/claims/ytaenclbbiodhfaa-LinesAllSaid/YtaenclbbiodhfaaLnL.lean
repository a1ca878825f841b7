import Derived.Test.YtaenclbbiodhfaaLnK
namespace Go.Proofs.Ytaenclbbiodhfaa
open Go.RowKit

def cutAt (at_ : Int) (xs : List En) (k : Nat) : En := if 0 ≤ at_ ∧ at_ < (k : Int) then cutX at_ xs else ⟨0, 0, 0⟩
/-- Between two rounds of the document's Cut. -/
structure RCut (at_ : Int) (xs : List En) (w wr : World) (k : Nat) (A : Option Addr) (c : Nat) : Prop where
  s : Sl wr (w.heap.size + 2) 3 A (cutLeft at_ xs k).length c (ens (cutLeft at_ xs k))
  f : Frm w wr fun _ => False
  z : Box3 wr w.heap.size ⟨0, 0, 0⟩
  x : Box3 wr (w.heap.size + 1) (cutAt at_ xs k)
  t : ∀ o, o < 3 → wr.frozen? ⟨w.heap.size, o, none⟩ = false
  u : ∀ o, o < 3 → wr.frozen? ⟨w.heap.size + 1, o, none⟩ = false
theorem Box3.frm {w w' : World} {g : Nat} {x : En} {S : Nat → Prop} (h : Box3 w g x) (hf : Frm w w' S) (hn : ¬ S g) : Box3 w' g x :=
  ⟨hf.cell h.1 hn, hf.cell h.2.1 hn, hf.cell h.2.2 hn⟩
theorem Box3.set {w : World} {g : Nat} {x : En} (h : Box3 w g x) (y : En) : Box3 (((w.setCell ⟨g, 0, none⟩ (.int .i64 y.t)).setCell ⟨g, 1, none⟩ (.int .u32 y.k)).setCell ⟨g, 2, none⟩ (.int .u64 y.tok)) g y := by
  obtain ⟨a, b, c⟩ := h
  have n1 : ∀ (i j : Nat), ¬ i = j → ¬ (⟨g, i, none⟩ : Addr) = ⟨g, j, none⟩ := by intro i j h e; injection e with _ e; exact h e
  refine ⟨?_, ?_, ?_⟩
  · rw [World.cell?_setCell_other _ _ _ _ (n1 _ _ (by decide)), World.cell?_setCell_other _ _ _ _ (n1 _ _ (by decide)), World.cell?_setCell_same _ _ _ a]
  · rw [World.cell?_setCell_other _ _ _ _ (n1 _ _ (by decide))]
    exact World.cell?_setCell_same _ _ _ (by rw [World.cell?_setCell_other _ _ _ _ (n1 _ _ (by decide))]; exact b)
  · exact World.cell?_setCell_same _ _ _ (by rw [World.cell?_setCell_other _ _ _ _ (n1 _ _ (by decide)), World.cell?_setCell_other _ _ _ _ (n1 _ _ (by decide))]; exact c)
theorem set3 (w w' : World) (S : Nat → Prop) (h : Frm w w' S) (g : Nat) (hg : g < w.heap.size → S g) (a b c : Value) : Frm w (((w'.setCell ⟨g, 0, none⟩ a).setCell ⟨g, 1, none⟩ b).setCell ⟨g, 2, none⟩ c) S :=
  ((h.setCell (p := ⟨g, 0, none⟩) hg _).setCell (p := ⟨g, 1, none⟩) hg _).setCell (p := ⟨g, 2, none⟩) hg _
theorem RCut.start (at_ : Int) (xs : List En) (w : World) : RCut at_ xs w ((w.alloc (.cells #[.int .i64 0, .int .u32 0, .int .u64 0] 47)).alloc (.cells #[.int .i64 0, .int .u32 0, .int .u64 0] 47)) 0 none 0 := by
  refine ⟨Sl.nil _ _ _, ((Frm.refl _ _).alloc _).alloc _, ?_, ?_, ?_, ?_⟩
  · exact (box3 w 47 ⟨0, 0, 0⟩).frm (S := fun _ => False) ((Frm.refl _ _).alloc _) id
  · have h := box3 (w.alloc (.cells #[.int .i64 0, .int .u32 0, .int .u64 0] 47)) 47 ⟨0, 0, 0⟩
    have e : cutAt at_ xs 0 = ⟨0, 0, 0⟩ := by unfold cutAt; rw [if_neg (by omega)]
    rw [e]
    simpa using h
  · intro o _
    rw [World.frozen?_alloc_past _ _ _ (by simp)]
    simp
  · intro o _
    simp
theorem RCut.step (at_ : Int) (xs : List En) {w wr w' : World} {k : Nat} {A A' : Option Addr} {c c' : Nat} (h : RCut at_ xs w wr k A c) (hk : k < xs.length) (hne : ¬ (k : Int) = at_)
    (hs : Sl w' (w.heap.size + 2) 3 A' ((cutLeft at_ xs k).length + 1) c' (ens (cutLeft at_ xs k) ++ xs[k].V)) {S : Nat → Prop} (hf : Frm wr w' S) (hS : ∀ j, S j → w.heap.size + 2 ≤ j) : RCut at_ xs w w' (k + 1) A' c' := by
  have e : cutLeft at_ xs (k + 1) = cutLeft at_ xs k ++ [xs[k]] := by
    unfold cutLeft
    rw [sel_succ _ xs k hk]
    simp [cutSo, hne]
  have e2 : cutAt at_ xs (k + 1) = cutAt at_ xs k := by
    unfold cutAt
    have : (0 ≤ at_ ∧ at_ < ((k + 1 : Nat) : Int)) ↔ (0 ≤ at_ ∧ at_ < (k : Int)) := by omega
    simp only [this]
  refine ⟨?_, h.f.fresh hf (fun j hj => by have := hS j hj; omega), h.z.frm hf (fun hs => by have := hS _ hs; omega), ?_, ?_, ?_⟩
  · rw [e, List.length_append, ens_snoc]; exact hs
  · rw [e2]; exact h.x.frm hf (fun hs => by have := hS _ hs; omega)
  · intro o ho
    have l := World.block_lt_of_cell? wr _ h.z.1
    rw [hf.frozen (p := ⟨w.heap.size, o, none⟩) l (fun hs => absurd (hS _ hs) (by simp))]
    exact h.t o ho
  · intro o ho
    have l := World.block_lt_of_cell? wr _ h.x.1
    rw [hf.frozen (p := ⟨w.heap.size + 1, o, none⟩) l (fun hs => absurd (hS _ hs) (by simp))]
    exact h.u o ho
theorem RCut.take (xs : List En) {w wr : World} {k : Nat} {A : Option Addr} {c : Nat} (h : RCut (k : Int) xs w wr k A c) (hk : k < xs.length) :
    RCut (k : Int) xs w (((wr.setCell ⟨w.heap.size + 1, 0, none⟩ (.int .i64 xs[k].t)).setCell ⟨w.heap.size + 1, 1, none⟩ (.int .u32 xs[k].k)).setCell ⟨w.heap.size + 1, 2, none⟩ (.int .u64 xs[k].tok)) (k + 1) A c := by
  have e : cutLeft k xs (k + 1) = cutLeft k xs k := by
    unfold cutLeft
    rw [sel_succ _ xs k hk]
    simp [cutSo]
  have e2 : cutAt k xs (k + 1) = xs[k] := by
    unfold cutAt cutX
    rw [if_pos (by omega), if_pos (by omega), Int.toNat_natCast, List.getElem?_eq_getElem hk]; rfl
  have hf := set3 wr wr (fun j => j = w.heap.size + 1) (Frm.refl _ _) (w.heap.size + 1) (fun _ => rfl) (.int .i64 xs[k].t) (.int .u32 xs[k].k) (.int .u64 xs[k].tok)
  refine ⟨?_, h.f.fresh hf (fun j hj => by omega), h.z.frm hf (by omega), ?_, ?_, ?_⟩
  · rw [e]; exact h.s.frm hf (fun j hj => by have := h.s.ge hj; omega)
  · rw [e2]; exact h.x.set _
  · intro o ho
    rw [World.frozen?_setCell, World.frozen?_setCell, World.frozen?_setCell]
    exact h.t o ho
  · intro o ho
    rw [World.frozen?_setCell, World.frozen?_setCell, World.frozen?_setCell]
    exact h.u o ho
set_option maxRecDepth 100000 in
set_option maxHeartbeats 1000000 in
theorem rcut_any (A : Option Addr) (n c : Nat) (at_ : Int) (xs : List En) (w : World) (hr : Rd w w.heap.size 3 A n (ens xs)) (hn : (n : Int) ≤ 1000) :
    Calls Try.prog 24 #[.slice A n c, .int .i64 at_] w fun e w' => ∃ An cn, e = .returned (.tuple #[En.val (cutX at_ xs), .slice An (cutLeft at_ xs xs.length).length cn, .bool (decide (0 ≤ at_) && decide (at_ < (n : Int)))]) ∧
      Sl w' w.heap.size 3 An (cutLeft at_ xs xs.length).length cn (ens (cutLeft at_ xs xs.length)) ∧ Frm w w' fun _ => False := by
  obtain ⟨hlen, hcells⟩ := Rd.ens hr
  have HL := Lib.hid hlen
  have HCE := Lib.hid hcells
  obtain ⟨i47, hi, hz0, hz1, hz2⟩ := info_parts info47
  obtain ⟨b, hb⟩ : ∃ b, b = (decide (0 ≤ at_) && decide (at_ < (n : Int))) := ⟨_, rfl⟩
  rw [← hb]
  have HB := Lib.hid hb
  clear hr hlen hcells hb
  go_enter Try.func24, Try.ntmps24
  go_wp2_with fail
  go_loopw [7, 9] (fun o i wr => ∃ (k : Nat) (Am : Option Addr) (cm : Nat), i = .int .i64 k ∧ k ≤ n ∧ o = .slice Am (cutLeft at_ xs k).length cm ∧ RCut at_ xs w wr k Am cm) (fun _ i _ => n - (intOf i).toNat)
  case atStart => exact ⟨0, none, 0, rfl, Nat.zero_le _, rfl, RCut.start _ _ _⟩
  case round =>
    obtain ⟨k, Am, cm, rfl, hk, rfl, hR⟩ := hrel
    have R := Lib.hid hR
    by_cases hlt : k < n
    · obtain ⟨g, off, rfl, hg, hcell⟩ := HCE.out (by omega)
      have hkl : k < xs.length := by have := HL.out; omega
      obtain ⟨x, hx⟩ : ∃ x, x = xs[k] := ⟨_, rfl⟩
      have hc := hcell k hkl
      rw [← hx] at hc
      obtain ⟨q0, q1, q2⟩ := hc
      replace q0 := hR.f.cell q0 id
      replace q1 := hR.f.cell q1 id
      replace q2 := hR.f.cell q2 id
      have i0 : (0 : Int) ≤ (k : Int) := by omega
      have i1 : (k : Int) < (n : Int) := by omega
      have HX := Lib.hid hx
      have bb : (cutLeft at_ xs k).length + 1 ≤ maxLen ∧ ((cutLeft at_ xs k).length + 1) * 24 ≤ 140737488355328 := by
        have := sel_le (fun i => !(cutSo at_ i)) xs k
        unfold maxLen cutLeft; omega
      obtain ⟨r1, r2⟩ := bb
      have hsz := hR.x
      have hsz := World.block_lt_of_cell? wr _ hR.x.1
      simp only at hsz
      have HSZ := Lib.hid hsz
      obtain ⟨x0, x1, x2⟩ := hR.x
      have u0 := hR.u 0 (by decide)
      have u1 := hR.u 1 (by decide)
      have u2 := hR.u 2 (by decide)
      clear hcell hx hR hsz
      by_cases hat : (k : Int) = at_
      · have b1 : ((k : Int) == at_) = true := by simp [hat]
        have HAT := Lib.hid hat
        clear hat
        go_wp2_with fail
        go_roundw
        case rel =>
          have h := HAT.out
          subst h
          have N := R.out.take xs hkl
          rw [← HX.out] at N
          exact ⟨k + 1, Am, cm, by go_num, by omega, by rw [show cutLeft (k : Int) xs (k + 1) = cutLeft (k : Int) xs k from by unfold cutLeft; rw [sel_succ _ xs k hkl]; simp [cutSo]], N⟩
        case measure => simp [intOf]; omega
      · have b1 : ((k : Int) == at_) = false := by simp [hat]
        have HAT := Lib.hid hat
        clear hat
        go_wp2_with (at_builtin; refine wpList_append_sl _ rfl _ _ 37 rfl (w.heap.size + 2) 47 i47 _ 3 24 Try.underlying37 hi hz0 hz1 hz2 rfl (by decide) _ _ _ _ rfl (R.out.s.alloc _) _ 1 1 x.V rfl (Rd.fresh_at _ 47 #[.int .i64 x.t, .int .u32 x.k, .int .u64 x.tok] rfl rfl) x.one r1 r2 (Nat.le_trans HSZ.out (by simp)) ?_; intro A' cap' w3 hap; replace hap := Lib.hid hap)
        go_roundw
        case rel =>
          have hl : (cutLeft at_ xs (k + 1)).length = (cutLeft at_ xs k).length + 1 := by unfold cutLeft; rw [sel_succ _ xs k hkl]; simp [cutSo, HAT.out]
          refine ⟨k + 1, A', cap', by go_num, by omega, by rw [hl], R.out.step at_ xs hkl HAT.out (by rw [← HX.out]; exact hap.out.1) (S := fun j => w.heap.size + 2 ≤ j) ?_ (fun j hj => hj)⟩
          exact ((Frm.refl wr (fun j => w.heap.size + 2 ≤ j)).alloc _).trans (hap.out.2.1.mono (fun j hj hb => (R.out.s.ge hb).1)) (fun _ _ h => h)
        case measure => simp [intOf]; omega
    · obtain rfl : k = n := by omega
      have hx := hR.x
      have ex : cutAt at_ xs k = cutX at_ xs := by
        unfold cutAt
        split
        · rfl
        · rw [cutX_out at_ xs (by have := HL.out; omega)]
      rw [ex] at hx
      obtain ⟨y, hy⟩ : ∃ y, y = cutX at_ xs := ⟨_, rfl⟩
      rw [← hy] at hx
      have HY := Lib.hid hy
      obtain ⟨x0, x1, x2⟩ := hx
      obtain ⟨z0, z1, z2⟩ := hR.z
      have t0 := hR.t 0 (by decide)
      have t1 := hR.t 1 (by decide)
      have t2 := hR.t 2 (by decide)
      clear hR hy ex
      by_cases ha : 0 ≤ at_
      · by_cases hb : at_ < (k : Int)
        · have HH := Lib.hid hb
          go_wp2_with fail
          refine bodyPost_ret (v := .tuple #[En.val y, .slice Am (cutLeft at_ xs k).length cm, .bool true]) (by simp [En.val, results, Try.results24, go_sem, z0, z1, z2]) rfl ⟨Am, cm, ?_, ?_, ?_⟩
          · rw [HB.out, HY.out, ← HL.out]; simp [ha, HH.out]
          · have hs := set3 wr wr (fun j => j = w.heap.size) (Frm.refl _ _) w.heap.size (fun _ => rfl) (.int .i64 y.t) (.int .u32 y.k) (.int .u64 y.tok)
            have hS := R.out.s
            rw [← HL.out]
            exact (hS.frm hs (fun j hj => by have := hS.ge hj; omega)).mono (by omega)
          · exact R.out.f.fresh (set3 wr wr (fun j => j = w.heap.size) (Frm.refl _ _) w.heap.size (fun _ => rfl) _ _ _) (fun j hj => by omega)
        · have HH := Lib.hid hb
          go_wp2_with fail
          refine bodyPost_ret (v := .tuple #[En.val y, .slice Am (cutLeft at_ xs k).length cm, .bool false]) (by simp [En.val, results, Try.results24, go_sem, z0, z1, z2]) rfl ⟨Am, cm, ?_, ?_, ?_⟩
          · rw [HB.out, HY.out, ← HL.out]; simp [ha, HH.out]
          · have hs := set3 wr wr (fun j => j = w.heap.size) (Frm.refl _ _) w.heap.size (fun _ => rfl) (.int .i64 y.t) (.int .u32 y.k) (.int .u64 y.tok)
            have hS := R.out.s
            rw [← HL.out]
            exact (hS.frm hs (fun j hj => by have := hS.ge hj; omega)).mono (by omega)
          · exact R.out.f.fresh (set3 wr wr (fun j => j = w.heap.size) (Frm.refl _ _) w.heap.size (fun _ => rfl) _ _ _) (fun j hj => by omega)
      · have HH := Lib.hid ha
        go_wp2_with fail
        refine bodyPost_ret (v := .tuple #[En.val y, .slice Am (cutLeft at_ xs k).length cm, .bool false]) (by simp [En.val, results, Try.results24, go_sem, z0, z1, z2]) rfl ⟨Am, cm, ?_, ?_, ?_⟩
        · rw [HB.out, HY.out, ← HL.out]; simp; exact fun h => absurd HH.out (by omega)
        · have hs := set3 wr wr (fun j => j = w.heap.size) (Frm.refl _ _) w.heap.size (fun _ => rfl) (.int .i64 y.t) (.int .u32 y.k) (.int .u64 y.tok)
          have hS := R.out.s
          rw [← HL.out]
          exact (hS.frm hs (fun j hj => by have := hS.ge hj; omega)).mono (by omega)
        · exact R.out.f.fresh (set3 wr wr (fun j => j = w.heap.size) (Frm.refl _ _) w.heap.size (fun _ => rfl) _ _ _) (fun j hj => by omega)
end Go.Proofs.Ytaenclbbiodhfaa
