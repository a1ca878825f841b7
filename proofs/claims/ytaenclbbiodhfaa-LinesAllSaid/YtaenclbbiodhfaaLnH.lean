import Derived.Test.YtaenclbbiodhfaaLnG
namespace Go.Proofs.Ytaenclbbiodhfaa
open Go.RowKit

theorem Sl.ens {w : World} {B n cap : Nat} {A : Option Addr} {xs : List En} (h : Sl w B 3 A n cap (ens xs)) (hn : 0 < n) : n = xs.length ∧ ∃ g off, A = some ⟨g, off, none⟩ ∧ B ≤ g ∧ g < w.heap.size ∧ ∀ i (hi : i < xs.length), w.cell? ⟨g, off + i * 3, none⟩ = some (.int .i64 xs[i].t) ∧ w.cell? ⟨g, off + i * 3 + 1, none⟩ = some (.int .u32 xs[i].k) ∧ w.cell? ⟨g, off + i * 3 + 2, none⟩ = some (.int .u64 xs[i].tok) := by
  obtain ⟨h1, h2⟩ := Rd.ens h.rd
  obtain ⟨g, off, rfl, hg, hc⟩ := h2 hn
  have := h.ge ((blk_some g off g).2 rfl)
  exact ⟨h1, g, off, rfl, this.1, this.2, hc⟩
abbrev lvX : List En := [⟨1, 8, 0⟩, ⟨2, 9, 0⟩, ⟨3, 8, 0⟩, ⟨4, 8, 0⟩]
abbrev lvC : Array Value := #[.int .i64 1, .int .u32 8, .int .u64 0, .int .i64 2, .int .u32 9, .int .u64 0, .int .i64 3, .int .u32 8, .int .u64 0, .int .i64 4, .int .u32 8, .int .u64 0]
theorem lv1 : smTaken 8 2 lvX = [⟨1, 8, 0⟩, ⟨3, 8, 0⟩] := by rfl
theorem lv2 : smLeft 8 2 lvX = [⟨2, 9, 0⟩, ⟨4, 8, 0⟩] := by rfl
theorem lv3 : chTaken [1, 0, 2] 8 lvX = [⟨3, 8, 0⟩] := by rfl
theorem lv4 : fst (fun x => x.k == 8) lvX = 0 := by rfl
set_option maxRecDepth 100000 in
set_option maxHeartbeats 1000000 in
theorem llives_any (w : World) : Calls Try.prog 14 #[] w fun e w' => e = .returned (.bool true) ∧ Frm w w' fun _ => False := by
  have F0 := Lib.hid ((Frm.refl w (fun _ => False)).alloc (.cells lvC 35))
  have R0 := Lib.hid (show Rd (w.alloc (.cells lvC 35)) (w.alloc (.cells lvC 35)).heap.size 3 (some ⟨w.heap.size, 0, none⟩) 4 (ens lvX) from Rd.fresh w 35 lvC rfl)
  go_enter Try.func14, Try.ntmps14
  go_wp2_with fail
  refine (some_any _ _ _ 8 2 (by decide) lvX _ R0.out (by decide) (fun j hj => by rw [blk_some] at hj; subst hj; simp)).mono ?_
  rw [lv1, lv2]
  rintro e w1 ⟨v, Ay, An, rfl, hP, hf⟩
  obtain ⟨hv, hy, hz, _⟩ := hP
  simp only [List.length_cons, List.length_nil, Nat.zero_add, Nat.reduceAdd] at hv
  subst hv
  have F1 := Lib.hid (F0.out.then_ hf)
  have R1 := Lib.hid (R0.out.new_ hf)
  obtain ⟨_, ga, oa, rfl, _, ga1, ca⟩ := hy.ens (by decide)
  obtain ⟨_, gb, ob, rfl, _, gb1, cb⟩ := hz.ens (by decide)
  have a0 : w1.cell? ⟨ga, oa, none⟩ = some (.int .i64 1) := (ca 0 (by decide)).1
  have a1 : w1.cell? ⟨ga, oa + 3, none⟩ = some (.int .i64 3) := (ca 1 (by decide)).1
  have b0 : w1.cell? ⟨gb, ob, none⟩ = some (.int .i64 2) := (cb 0 (by decide)).1
  have b1 : w1.cell? ⟨gb, ob + 3, none⟩ = some (.int .i64 4) := (cb 1 (by decide)).1
  have hA := hf.size
  have hsz1 : w.heap.size < w1.heap.size := by simp at hA; omega
  clear hf hy hz ca cb R0 F0 hA
  go_wp2_with fail
  have hal : Frm w1 ((w1.alloc (.cells #[.int .u8 1, .int .u8 0, .int .u8 2] 5)).alloc (.cells #[.slice (some ⟨w1.heap.size, 0, none⟩) 3 3, .slice none 0 0] 30)) fun _ => False := ((Frm.refl _ _).alloc _).alloc _
  have hrc : Rd ((w1.alloc (.cells #[.int .u8 1, .int .u8 0, .int .u8 2] 5)).alloc (.cells #[.slice (some ⟨w1.heap.size, 0, none⟩) 3 3, .slice none 0 0] 30)) ((w1.alloc (.cells #[.int .u8 1, .int .u8 0, .int .u8 2] 5)).alloc (.cells #[.slice (some ⟨w1.heap.size, 0, none⟩) 3 3, .slice none 0 0] 30)).heap.size 1 (some ⟨w1.heap.size, 0, none⟩) 3 (bz [1, 0, 2]) :=
    Rd.new_ (show Rd (w1.alloc (.cells #[.int .u8 1, .int .u8 0, .int .u8 2] 5)) (w1.alloc (.cells #[.int .u8 1, .int .u8 0, .int .u8 2] 5)).heap.size 1 (some ⟨w1.heap.size, 0, none⟩) 3 (bz [1, 0, 2]) from Rd.fresh w1 5 #[.int .u8 1, .int .u8 0, .int .u8 2] rfl) ((Frm.refl _ _).alloc _)
  refine (chosen_any _ _ _ _ 3 3 _ 8 lvX [1, 0, 2] _ (R1.out.new_ hal) (by decide) hrc (by decide) (fun j hj => by rw [blk_some] at hj; subst hj; simp; omega) (fun j hj => by rw [blk_some] at hj; subst hj; simp; omega)
    (by simp)
    (by simp)
    (by simp)).mono ?_
  rw [lv3]
  rintro e w2 ⟨v, Ay, An, A', cap', rfl, hP, _, hf, _⟩
  obtain ⟨hv, hy, _, _⟩ := hP
  simp only [List.length_cons, List.length_nil, Nat.zero_add] at hv
  subst hv
  obtain ⟨_, gc, oc, rfl, _, gc1, cc⟩ := hy.ens (by decide)
  have c0 : w2.cell? ⟨gc, oc, none⟩ = some (.int .i64 3) := (cc 0 (by decide)).1
  have ne1 : ¬ ga = w1.heap.size + 1 := by omega
  have ne2 : ¬ gb = w1.heap.size + 1 := by omega
  replace a0 := hf.cell (hal.cell a0 id) ne1
  replace a1 := hf.cell (hal.cell a1 id) ne1
  replace b0 := hf.cell (hal.cell b0 id) ne2
  replace b1 := hf.cell (hal.cell b1 id) ne2
  have F2 := Lib.hid ((F1.out.then_ hal).fresh hf (fun j hj => by have := F1.out.size; omega))
  have R2 := Lib.hid ((R1.out.new_ hal).frm hf (fun j hj => by rw [blk_some] at hj; omega))
  clear hf hy cc R1 F1 hal hrc
  go_wp2_with fail
  refine (first_any _ _ _ 8 lvX _ R2.out (by decide)).mono ?_
  rw [lv4]
  rintro e w3 ⟨rfl, hf⟩
  replace a0 := hf.cell a0 id
  replace a1 := hf.cell a1 id
  replace b0 := hf.cell b0 id
  replace b1 := hf.cell b1 id
  replace c0 := hf.cell c0 id
  have F3 := Lib.hid (F2.out.then_ hf)
  clear hf R2 F2
  go_wp2_with fail
  go_ret
  exact ⟨rfl, F3.out⟩
end Go.Proofs.Ytaenclbbiodhfaa
