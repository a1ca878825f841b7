import Derived.Test.YtaenclbbiodhfaaScE
namespace Go.Proofs.Ytaenclbbiodhfaa
open Go.RowKit

set_option maxRecDepth 100000 in
theorem write_33 (w : World) : Calls Try.prog 80 #[.agg #[.int .u8 1, .int .u64 33]] w fun e w' => e = .returned (.slice none 0 0) ∧ Frm w w' fun _ => False := by
  go_enter Try.func80, Try.ntmps80
  go_wp2
  go_ret
  exact ⟨rfl, (Frm.refl _ _).alloc _⟩
set_option maxRecDepth 100000 in
set_option maxHeartbeats 1000000 in
theorem write_no (g : Nat) (c : Nat) (w : World) (c0 : w.cell? ⟨g, 0, none⟩ = some (.int .u8 1)) (c1 : w.cell? ⟨g, 1, none⟩ = some (.int .u64 33)) : Calls Try.prog 73 #[.slice (some ⟨g, 0, none⟩) 1 c] w fun e w' => e = .returned (.tuple #[.slice none 0 0, .bool false]) ∧ Frm w w' fun _ => False := by
  go_enter Try.func73, Try.ntmps73
  go_wp2_with fail
  go_loopw [4, 10] (fun o i wr => o = .slice none 0 0 ∧ i = .int .i64 0 ∧ wr = w) (fun _ i _ => 1)
  case atStart => exact ⟨rfl, rfl, rfl⟩
  case round =>
    obtain ⟨rfl, rfl, hw⟩ := hrel
    subst hw
    go_wp2_with (go_at_call 80; refine (write_33 _).mono ?_; rintro e w2 ⟨rfl, hf⟩; have F := Lib.hid (((Frm.refl wr fun _ => False).alloc (.cells #[.int .u8 1, .int .u64 33] 124)).then_ hf); clear hf)
    go_ret2
    exact ⟨rfl, F.out⟩
abbrev lvB : List Nat := [3, 192, 225, 7, 224]
abbrev lvS : List Cm := [⟨0, 3⟩, ⟨1, 1⟩, ⟨2, 263⟩, ⟨2, 0⟩]
theorem lvS_is : cmds (lvB.take 65536) = lvS := rfl
set_option maxRecDepth 100000 in
set_option maxHeartbeats 1000000 in
theorem slives_any (w : World) : Calls Try.prog 54 #[] w fun e w' => e = .returned (.bool true) ∧ Frm w w' fun _ => False := by
  have hP : ∀ V A, Rd V V.heap.size 1 A 5 (by_ lvB) → (∀ j, blk A j → j < V.heap.size) → Calls Try.prog 55 #[.slice A 5 5] V (ParsePost lvS V) := fun V A hr hA => by
    have := parse_any A 5 5 lvB V hr (Nat.le_refl _) (by omega) (by decide) hA
    rw [lvS_is] at this
    exact this
  have HP := Lib.hid hP
  have e1 := eql124
  have e2 := eqg124
  clear hP
  go_enter Try.func54, Try.ntmps54
  go_wp2_with fail
  refine (HP.out _ _ (fresh_cm _ 5 #[.int .u8 3, .int .u8 192, .int .u8 225, .int .u8 7, .int .u8 224] rfl rfl) (fun j hj => by rw [blk_some] at hj; subst hj; simp)).mono ?_
  rintro e w2 ⟨Ao, rfl, hs, hf⟩
  have S := Lib.hid hs
  have F := Lib.hid (((Frm.refl w fun _ => False).alloc (.cells #[.int .u8 3, .int .u8 192, .int .u8 225, .int .u8 7, .int .u8 224] 5)).then_ hf)
  clear hs hf
  go_wp2_with fail
  refine (write_no w2.heap.size 1 _ (by rw [World.cell?_alloc_new]; rfl) (by rw [World.cell?_alloc_new]; rfl)).mono ?_
  rintro e w3 ⟨rfl, hf⟩
  have hf' := ((Frm.refl w2 fun _ => False).alloc (.cells #[.int .u8 1, .int .u64 33] 124)).then_ hf
  obtain ⟨g, off, rfl, _, hcell⟩ := (Rd.cms (S.out.new_ hf').rd).2 (by decide)
  obtain ⟨a0, a1⟩ := hcell 0 (by decide)
  obtain ⟨b0, b1⟩ := hcell 1 (by decide)
  obtain ⟨d0, d1⟩ := hcell 2 (by decide)
  obtain ⟨f0, f1⟩ := hcell 3 (by decide)
  simp only [lvS, List.getElem_cons_zero, List.getElem_cons_succ, Nat.zero_mul, Nat.add_zero] at a0 a1 b0 b1 d0 d1 f0 f1
  have FF := Lib.hid (F.out.then_ hf')
  clear hf hf' hcell
  go_wp2_with fail
  go_ret
  exact ⟨rfl, FF.out⟩
end Go.Proofs.Ytaenclbbiodhfaa
