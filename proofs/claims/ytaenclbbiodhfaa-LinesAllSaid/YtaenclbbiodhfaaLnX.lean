import Derived.Test.YtaenclbbiodhfaaLnW
namespace Go.Proofs.Ytaenclbbiodhfaa
open Go.RowKit

theorem method_all (w : World) : (method 260 67 (.agg #[]) "Choose").run Try.prog w = .ok (102, .agg #[]) w := by kernel_rfl
/-- What the choosing closure reads, where all are taken. -/
structure AlI (bk bo bf : Nat) (key : Int) (w : World) : Prop where
  k0 : w.cell? ⟨bk, 0, none⟩ = some (.int .u32 key)
  o0 : w.cell? ⟨bo, 0, none⟩ = some (.bool true)
  fo : w.frozen? ⟨bo, 0, none⟩ = false
  f0 : w.cell? ⟨bf, 0, none⟩ = some (.iface 67 (.agg #[]))
theorem AlI.frm {bk bo bf : Nat} {key : Int} {w w' : World} {S : Nat → Prop} (h : AlI bk bo bf key w) (hf : Frm w w' S) (h1 : ¬ S bk) (h2 : ¬ S bo) (h3 : ¬ S bf) : AlI bk bo bf key w' :=
  ⟨hf.cell h.k0 h1, hf.cell h.o0 h2, (hf.frozen (p := ⟨bo, 0, none⟩) (World.block_lt_of_cell? w _ h.o0) h2).trans h.fo, hf.cell h.f0 h3⟩
def alSo (key : Int) (xs : List En) (i : Nat) : Bool :=
  match xs[i]? with
  | some x => decide (x.k = key)
  | none => false
set_option maxRecDepth 100000 in
set_option maxHeartbeats 1000000 in
theorem clos59_al_no (bk bo bf i : Nat) (x : En) (key : Int) (w : World) (k0 : w.cell? ⟨bk, 0, none⟩ = some (.int .u32 key)) (hk : ¬ x.k = key) :
    Calls Try.prog 59 #[.int .i64 (i : Int), En.val x, .pointer (some ⟨bk, 0, none⟩), .pointer (some ⟨bo, 0, none⟩), .pointer (some ⟨bf, 0, none⟩)] w fun e w' => e = .returned (.bool false) ∧ Frm w w' fun _ => False := by
  have l1 := World.block_lt_of_cell? w _ k0
  simp only at l1
  have b1 : (x.k != key) = true := by simp [hk]
  clear hk
  go_enter Try.func59, Try.ntmps59
  go_wp2_with fail
  go_ret
  exact ⟨rfl, (Frm.refl _ _).alloc _⟩
set_option maxRecDepth 100000 in
theorem all_choose (tok : Int) (w : World) : Calls Try.prog 102 #[.agg #[], .int .u64 tok] w fun e w' => e = .returned (.int .u8 0) ∧ Frm w w' fun _ => False := by
  go_enter Try.func102, Try.ntmps102
  go_wp2
  go_ret
  first
  | exact ⟨rfl, Frm.refl _ _⟩
  | exact ⟨rfl, (Frm.refl _ _).alloc _⟩
set_option maxRecDepth 100000 in
set_option maxHeartbeats 1000000 in
theorem clos59_al_yes (bk bo bf i : Nat) (x : En) (key : Int) (w : World) (h : AlI bk bo bf key w) (hk : x.k = key) :
    Calls Try.prog 59 #[.int .i64 (i : Int), En.val x, .pointer (some ⟨bk, 0, none⟩), .pointer (some ⟨bo, 0, none⟩), .pointer (some ⟨bf, 0, none⟩)] w fun e w' => e = .returned (.bool true) ∧ ∃ w2, Frm w w2 (fun _ => False) ∧ w' = w2.setCell ⟨bo, 0, none⟩ (.bool true) := by
  obtain ⟨k0, o0, fo, f0⟩ := h
  have l1 := World.block_lt_of_cell? w _ k0
  have l2 := World.block_lt_of_cell? w _ o0
  have l3 := World.block_lt_of_cell? w _ f0
  simp only at l1 l2 l3
  have b1 : (x.k != key) = false := by simp [hk]
  have hm := method_all
  have O0 := Lib.hid o0
  have FO := Lib.hid fo
  have L2 := Lib.hid l2
  clear hk
  go_enter Try.func59, Try.ntmps59
  go_wp2_with (go_at_call 102; refine (all_choose _ _).mono ?_; rintro e w2 ⟨rfl, hf⟩; have F := Lib.hid (((Frm.refl w _).alloc (.cells #[.int .i64 x.t, .int .u32 x.k, .int .u64 x.tok] 35)).then_ hf); have o2 := F.out.cell O0.out id; have f2 := (F.out.frozen (p := ⟨bo, 0, none⟩) L2.out id).trans FO.out; clear hf)
  go_ret
  exact ⟨rfl, _, F.out, rfl⟩
theorem alSo_at (key : Int) (xs : List En) (i : Nat) (hi : i < xs.length) : alSo key xs i = decide (xs[i].k = key) := by
  unfold alSo; rw [List.getElem?_eq_getElem hi]
theorem clos59_al (bk bo bf B : Nat) (key : Int) (hk : bk < B) (ho : bo < B) (hf : bf < B) (h1 : ¬ bo = bk) (h2 : ¬ bo = bf) (xs : List En) :
    Clos 59 (fun i x => #[.int .i64 (i : Int), En.val x, .pointer (some ⟨bk, 0, none⟩), .pointer (some ⟨bo, 0, none⟩), .pointer (some ⟨bf, 0, none⟩)]) xs Unit (fun _ _ w => AlI bk bo bf key w) (fun _ k => k = bo) (alSo key xs) B := by
  refine ⟨fun i s w w' S h hf' ho' hB => h.frm hf' (fun hs => by have := hB _ hs; omega) (ho' bo rfl) (fun hs => by have := hB _ hs; omega), fun i s w k h hk => ?_, fun i hi s w h => ?_⟩
  · subst hk; exact World.block_lt_of_cell? w _ h.o0
  · rw [alSo_at _ _ _ hi]
    by_cases hx : xs[i].k = key
    · rw [decide_eq_true hx]
      refine (clos59_al_yes bk bo bf i xs[i] key w h hx).mono ?_
      rintro e w' ⟨rfl, w2, hf2, rfl⟩
      have g := h.frm hf2 id id id
      refine ⟨rfl, (), ⟨?_, World.cell?_setCell_same _ _ _ g.o0, by rw [World.frozen?_setCell]; exact g.fo, ?_⟩, (hf2.none_ (fun k => k = bo)).setCell (S := fun k => k = bo) (p := ⟨bo, 0, none⟩) (fun _ => rfl) _, fun k hk => .inl hk⟩
      · rw [World.cell?_setCell_other _ _ _ _ (by intro e; injection e with e; exact h1 e)]; exact g.k0
      · rw [World.cell?_setCell_other _ _ _ _ (by intro e; injection e with e; exact h2 e)]; exact g.f0
    · rw [decide_eq_false hx]
      refine (clos59_al_no bk bo bf i xs[i] key w h.k0 hx).mono ?_
      rintro e w' ⟨rfl, hf2⟩
      exact ⟨rfl, (), h.frm hf2 id id id, hf2.none_ _, fun k hk => .inl hk⟩
def alTaken (key : Int) (xs : List En) : List En := sel (alSo key xs) xs xs.length
def alLeft (key : Int) (xs : List En) : List En := sel (fun i => !(alSo key xs i)) xs xs.length
set_option maxRecDepth 100000 in
set_option maxHeartbeats 1000000 in
theorem chosen_al (A : Option Addr) (n c : Nat) (key : Int) (xs : List En) (w : World) (hr : Rd w w.heap.size 3 A n (ens xs)) (hn : (n : Int) ≤ 1000) (hA : ∀ j, blk A j → j < w.heap.size) :
    Calls Try.prog 15 #[.slice A n c, .int .u32 key, .iface 67 (.agg #[])] w fun e w' => ∃ v Ay An, e = .returned v ∧ Pair2 w w' v (alTaken key xs) (alLeft key xs) Ay An ∧ Frm w w' fun _ => False := by
  obtain ⟨W, hW⟩ : ∃ W, W = ((w.alloc (.cells #[.int .u32 key] 24)).alloc (.cells #[.iface 67 (.agg #[])] 107)).alloc (.cells #[.bool true] 4) := ⟨_, rfl⟩
  have hfW : Frm w W fun _ => False := by rw [hW]; exact (((Frm.refl _ _).alloc _).alloc _).alloc _
  have hI : AlI w.heap.size (w.heap.size + 2) (w.heap.size + 1) key W := by
    refine ⟨?_, ?_, ?_, ?_⟩
    · rw [hW, World.cell?_alloc_past _ _ _ (by simp; omega), World.cell?_alloc_past _ _ _ (by simp), World.cell?_alloc_new]; rfl
    · have := World.cell?_alloc_new ((w.alloc (.cells #[.int .u32 key] 24)).alloc (.cells #[.iface 67 (.agg #[])] 107)) #[.bool true] 4 0
      rw [hW]
      simpa using this
    · have := World.frozen?_alloc_new ((w.alloc (.cells #[.int .u32 key] 24)).alloc (.cells #[.iface 67 (.agg #[])] 107)) #[.bool true] 4 0
      rw [hW]
      simpa using this
    · rw [hW, World.cell?_alloc_past _ _ _ (by simp)]
      simp
  have hsz : W.heap.size = w.heap.size + 3 := by rw [hW]; simp
  have hpart := part_59 (.pointer (some ⟨w.heap.size, 0, none⟩)) (.pointer (some ⟨w.heap.size + 2, 0, none⟩)) (.pointer (some ⟨w.heap.size + 1, 0, none⟩)) xs (fun _ (_ : Unit) w' => AlI w.heap.size (w.heap.size + 2) (w.heap.size + 1) key w') (fun _ k => k = w.heap.size + 2) (alSo key xs) (w.heap.size + 3) W
    (clos59_al w.heap.size (w.heap.size + 2) (w.heap.size + 1) (w.heap.size + 3) key (by omega) (by omega) (by omega) (by omega) (by omega) xs) (by omega) A n c (hr.new_ hfW) hn () hI (fun j hj ho => by have := hA j hj; omega)
  rw [hW] at hpart
  have HP := Lib.hid hpart
  have HW := Lib.hid hW
  have HF := Lib.hid hfW
  have HSZ := Lib.hid hsz
  clear hpart hI hr hA hW hfW hsz
  go_enter Try.func15, Try.ntmps15
  go_wp2_with (go_at_call 58; refine HP.out.mono ?_; rintro e w2 ⟨v, rfl, hd⟩; obtain ⟨Ay, An, s, rfl, hM⟩ := hd; have M := Lib.hid hM; clear hM)
  go_ret2
  have M' : Mid (alSo key xs) xs (fun _ (_ : Unit) w' => AlI w.heap.size (w.heap.size + 2) (w.heap.size + 1) key w') (fun _ k => k = w.heap.size + 2) () W w2 xs.length xs.length Ay (alTaken key xs).length An (alLeft key xs).length s := by rw [HW.out]; exact M.out
  have hsz := HSZ.out
  exact ⟨_, Ay, An, rfl, ⟨rfl, M'.sy.mono (by omega), M'.sn.mono (by omega), M'.dyn⟩, HF.out.fresh M'.frm (fun j hj => by omega)⟩
end Go.Proofs.Ytaenclbbiodhfaa
