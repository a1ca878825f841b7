import Derived.Test.YtaenclbbiodhfaaLnE
namespace Go.Proofs.Ytaenclbbiodhfaa
open Go.RowKit

structure NoI (bk bo : Nat) (key : Int) (w : World) : Prop where
  k0 : w.cell? ⟨bk, 0, none⟩ = some (.int .u32 key)
  o0 : w.cell? ⟨bo, 0, none⟩ = some (.bool false)
set_option maxRecDepth 100000 in
set_option maxHeartbeats 1000000 in
theorem clos59_no (bk bo bf i : Nat) (x : En) (key : Int) (w : World) (k0 : w.cell? ⟨bk, 0, none⟩ = some (.int .u32 key)) (o0 : w.cell? ⟨bo, 0, none⟩ = some (.bool false)) :
    Calls Try.prog 59 #[.int .i64 (i : Int), En.val x, .pointer (some ⟨bk, 0, none⟩), .pointer (some ⟨bo, 0, none⟩), .pointer (some ⟨bf, 0, none⟩)] w fun e w' => e = .returned (.bool false) ∧ Frm w w' fun _ => False := by
  have l1 := World.block_lt_of_cell? w _ k0
  have l2 := World.block_lt_of_cell? w _ o0
  simp only at l1 l2
  by_cases hk : x.k = key
  · have b1 : (x.k != key) = false := by simp [hk]
    clear hk
    go_enter Try.func59, Try.ntmps59
    go_wp2_with fail
    go_ret
    exact ⟨rfl, (Frm.refl _ _).alloc _⟩
  · have b1 : (x.k != key) = true := by simp [hk]
    clear hk
    go_enter Try.func59, Try.ntmps59
    go_wp2_with fail
    go_ret
    exact ⟨rfl, (Frm.refl _ _).alloc _⟩
theorem clos59_nil (bk bo bf B : Nat) (key : Int) (h1 : bk < B) (h2 : bo < B) (xs : List En) :
    Clos 59 (fun i x => #[.int .i64 (i : Int), En.val x, .pointer (some ⟨bk, 0, none⟩), .pointer (some ⟨bo, 0, none⟩), .pointer (some ⟨bf, 0, none⟩)]) xs Unit (fun _ _ w => NoI bk bo key w) (fun _ _ => False) (fun _ => false) B := by
  refine ⟨fun i s w w' S h hf _ hB => ⟨hf.cell h.k0 (fun hs => by have := hB _ hs; simp at this; omega), hf.cell h.o0 (fun hs => by have := hB _ hs; simp at this; omega)⟩, fun i s w k _ h => h.elim, fun i hi s w h => ?_⟩
  refine (clos59_no bk bo bf i xs[i] key w h.k0 h.o0).mono ?_
  rintro e w' ⟨rfl, hf⟩
  exact ⟨rfl, (), ⟨hf.cell h.k0 id, hf.cell h.o0 id⟩, hf, fun k h => .inl h⟩
theorem sel_none (xs : List En) : ∀ k, k ≤ xs.length → sel (fun _ => false) xs k = [] := by
  intro k hk
  induction k with
  | zero => rfl
  | succ k ih => rw [sel_succ _ xs k (by omega), ih (by omega)]; rfl
theorem sel_all (xs : List En) : ∀ k, k ≤ xs.length → sel (fun _ => true) xs k = xs.take k := by
  intro k hk
  induction k with
  | zero => rfl
  | succ k ih => rw [sel_succ _ xs k (by omega), ih (by omega), List.take_succ_eq_append_getElem (by omega)]; rfl
set_option maxRecDepth 100000 in
set_option maxHeartbeats 1000000 in
theorem chosen_nil (A : Option Addr) (n c : Nat) (key : Int) (xs : List En) (w : World) (hr : Rd w w.heap.size 3 A n (ens xs)) (hn : (n : Int) ≤ 1000) :
    Calls Try.prog 15 #[.slice A n c, .int .u32 key, .nilIface] w fun e w' => ∃ Ay An, e = .returned (.tuple #[.slice Ay 0 0, .slice An n n]) ∧ Sl w' w.heap.size 3 An n n (ens xs) ∧ Frm w w' fun _ => False := by
  obtain ⟨W, hW⟩ : ∃ W, W = ((w.alloc (.cells #[.int .u32 key] 24)).alloc (.cells #[.nilIface] 107)).alloc (.cells #[.bool false] 4) := ⟨_, rfl⟩
  have hfW : Frm w W fun _ => False := by rw [hW]; exact (((Frm.refl _ _).alloc _).alloc _).alloc _
  have hxl := (Rd.ens hr).1
  have hI : NoI w.heap.size (w.heap.size + 2) key W := by
    refine ⟨?_, ?_⟩
    · rw [hW, World.cell?_alloc_past _ _ _ (by simp; omega), World.cell?_alloc_past _ _ _ (by simp), World.cell?_alloc_new]; rfl
    · have := World.cell?_alloc_new ((w.alloc (.cells #[.int .u32 key] 24)).alloc (.cells #[.nilIface] 107)) #[.bool false] 4 0
      rw [hW]
      simpa using this
  have hsz : W.heap.size = w.heap.size + 3 := by rw [hW]; simp
  have hpart := part_59 (.pointer (some ⟨w.heap.size, 0, none⟩)) (.pointer (some ⟨w.heap.size + 2, 0, none⟩)) (.pointer (some ⟨w.heap.size + 1, 0, none⟩)) xs (fun _ (_ : Unit) w' => NoI w.heap.size (w.heap.size + 2) key w') (fun _ _ => False) (fun _ => false) (w.heap.size + 3) W
    (clos59_nil w.heap.size (w.heap.size + 2) (w.heap.size + 1) (w.heap.size + 3) key (by omega) (by omega) xs) (by omega) A n c (hr.new_ hfW) hn () hI (fun j hj ho => ho)
  have hgot : Calls Try.prog 58 #[.slice A n c, .func (.func 59) #[] #[.pointer (some ⟨w.heap.size, 0, none⟩), .pointer (some ⟨w.heap.size + 2, 0, none⟩), .pointer (some ⟨w.heap.size + 1, 0, none⟩)]] W fun e w2 => ∃ Ay An, e = .returned (.tuple #[.slice Ay 0 0, .slice An n n]) ∧ Sl w2 w.heap.size 3 An n n (ens xs) ∧ Frm w w2 fun _ => False := by
    refine hpart.mono ?_
    rintro e w2 ⟨v, rfl, Ay, An, s, rfl, M⟩
    have e1 : sel (fun _ => false) xs xs.length = [] := sel_none xs _ (Nat.le_refl _)
    have e2 : sel (fun i => !((fun _ => false) i)) xs xs.length = xs := by
      have := sel_all xs _ (Nat.le_refl xs.length)
      rw [List.take_length] at this
      exact this
    have hs := M.sn
    rw [e2] at hs
    rw [e1, e2, ← hxl]
    rw [← hxl] at hs
    exact ⟨Ay, An, rfl, hs.mono (by omega), hfW.then_ M.frm⟩
  rw [hW] at hgot
  have HP := Lib.hid hgot
  clear hpart hI hr hW hfW hsz hgot hxl
  go_enter Try.func15, Try.ntmps15
  go_wp2_with (go_at_call 58; refine HP.out.mono ?_; rintro e w2 ⟨Ay, An, rfl, hs, hf⟩)
  go_ret2
  exact ⟨Ay, An, rfl, hs, hf⟩
end Go.Proofs.Ytaenclbbiodhfaa
