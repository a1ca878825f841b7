import Derived.Test.YtaenclbbiodhfaaLnE
namespace Go.Proofs.Ytaenclbbiodhfaa
open Go.RowKit

def smStep (key m : Int) (x : En) : Int := if x.k = key ∧ 0 < m then m - 1 else m
def smRun (key most : Int) (l : List En) : Int := l.foldl (smStep key) most
def smSo (key most : Int) (xs : List En) (i : Nat) : Bool :=
  match xs[i]? with
  | some x => decide (x.k = key) && decide (0 < smRun key most (xs.take i))
  | none => false
theorem smRun_succ (key most : Int) (xs : List En) (i : Nat) (hi : i < xs.length) : smRun key most (xs.take (i + 1)) = smStep key (smRun key most (xs.take i)) xs[i] := by
  unfold smRun
  rw [List.take_succ_eq_append_getElem hi, List.foldl_append]; rfl
theorem smRun_le (key most : Int) (l : List En) : smRun key most l ≤ most ∧ (most ≤ smRun key most l ∨ 0 ≤ smRun key most l) := by
  unfold smRun
  induction l generalizing most with
  | nil => simp
  | cons x l ih =>
    rw [List.foldl_cons]
    have := ih (smStep key most x)
    have h1 : smStep key most x ≤ most ∧ (most ≤ smStep key most x ∨ 0 ≤ smStep key most x) := by unfold smStep; split <;> omega
    omega
theorem smSo_at (key most : Int) (xs : List En) (i : Nat) (hi : i < xs.length) : smSo key most xs i = (decide (xs[i].k = key) && decide (0 < smRun key most (xs.take i))) := by
  unfold smSo; rw [List.getElem?_eq_getElem hi]
/-- The closure of Some: its state is how many may still be taken. -/
structure SmI (bk bm : Nat) (key most : Int) (xs : List En) (i : Nat) (m : Int) (w : World) : Prop where
  ms : m = smRun key most (xs.take i)
  k0 : w.cell? ⟨bk, 0, none⟩ = some (.int .u32 key)
  m0 : w.cell? ⟨bm, 0, none⟩ = some (.int .i64 m)
  fm : w.frozen? ⟨bm, 0, none⟩ = false
theorem SmI.frm {bk bm : Nat} {key most : Int} {xs : List En} {i : Nat} {m : Int} {w w' : World} {S : Nat → Prop} (h : SmI bk bm key most xs i m w) (hf : Frm w w' S) (h1 : ¬ S bk) (h2 : ¬ S bm) : SmI bk bm key most xs i m w' :=
  ⟨h.ms, hf.cell h.k0 h1, hf.cell h.m0 h2, (hf.frozen (p := ⟨bm, 0, none⟩) (World.block_lt_of_cell? w _ h.m0) h2).trans h.fm⟩
set_option maxRecDepth 100000 in
set_option maxHeartbeats 1000000 in
theorem clos64_no (bk bm i : Nat) (x : En) (key m : Int) (w : World) (k0 : w.cell? ⟨bk, 0, none⟩ = some (.int .u32 key)) (m0 : w.cell? ⟨bm, 0, none⟩ = some (.int .i64 m)) (hn : ¬ (x.k = key ∧ 0 < m)) :
    Calls Try.prog 64 #[.int .i64 (i : Int), En.val x, .pointer (some ⟨bk, 0, none⟩), .pointer (some ⟨bm, 0, none⟩)] w fun e w' => e = .returned (.bool false) ∧ Frm w w' fun _ => False := by
  have l1 := World.block_lt_of_cell? w _ k0
  have l2 := World.block_lt_of_cell? w _ m0
  simp only at l1 l2
  by_cases hk : x.k = key
  · have hm : m ≤ 0 := by omega
    have b1 : (x.k != key) = false := by simp [hk]
    clear hn hk
    go_enter Try.func64, Try.ntmps64
    go_wp2_with fail
    go_ret
    exact ⟨rfl, (Frm.refl _ _).alloc _⟩
  · have b1 : (x.k != key) = true := by simp [hk]
    clear hn hk
    go_enter Try.func64, Try.ntmps64
    go_wp2_with fail
    go_ret
    exact ⟨rfl, (Frm.refl _ _).alloc _⟩
set_option maxRecDepth 100000 in
set_option maxHeartbeats 1000000 in
theorem clos64_yes (bk bm i : Nat) (x : En) (key m : Int) (w : World) (k0 : w.cell? ⟨bk, 0, none⟩ = some (.int .u32 key)) (m0 : w.cell? ⟨bm, 0, none⟩ = some (.int .i64 m)) (fm : w.frozen? ⟨bm, 0, none⟩ = false) (hx : x.k = key) (hm : 0 < m) (hm2 : m ≤ 9223372036854775807) :
    Calls Try.prog 64 #[.int .i64 (i : Int), En.val x, .pointer (some ⟨bk, 0, none⟩), .pointer (some ⟨bm, 0, none⟩)] w fun e w' => e = .returned (.bool true) ∧ ∃ o, w' = (w.setCell ⟨bm, 0, none⟩ (.int .i64 (m - 1))).alloc o := by
  have l1 := World.block_lt_of_cell? w _ k0
  have l2 := World.block_lt_of_cell? w _ m0
  simp only at l1 l2
  have b1 : (x.k != key) = false := by simp [hx]
  clear hx
  go_enter Try.func64, Try.ntmps64
  go_wp2_with fail
  go_ret
  exact ⟨rfl, _, rfl⟩
theorem clos64 (bk bm B : Nat) (key most : Int) (hk : bk < B) (hne : ¬ bk = bm) (hmost : most ≤ 9223372036854775807) (xs : List En) :
    Clos 64 (fun i x => #[.int .i64 (i : Int), En.val x, .pointer (some ⟨bk, 0, none⟩), .pointer (some ⟨bm, 0, none⟩)]) xs Int (SmI bk bm key most xs) (fun _ k => k = bm) (smSo key most xs) B := by
  refine ⟨fun i s w w' S h hf ho hB => h.frm hf (fun hs => by have := hB _ hs; omega) (ho bm rfl), fun i s w k h hk => ?_, fun i hi s w h => ?_⟩
  · subst hk; exact World.block_lt_of_cell? w _ h.m0
  · have hrun := smRun_succ key most xs i hi
    by_cases hn : xs[i].k = key ∧ 0 < s
    · have e : smSo key most xs i = true := by rw [smSo_at _ _ _ _ hi, ← h.ms]; simp [hn.1, hn.2]
      rw [e]
      have hle := (smRun_le key most (xs.take i)).1
      refine (clos64_yes bk bm i xs[i] key s w h.k0 h.m0 h.fm hn.1 hn.2 (by rw [h.ms]; omega)).mono ?_
      rintro e w' ⟨rfl, o, rfl⟩
      have hset : Frm w (w.setCell ⟨bm, 0, none⟩ (.int .i64 (s - 1))) (fun k => k = bm) := (Frm.refl w (fun k => k = bm)).setCell (p := ⟨bm, 0, none⟩) (fun _ => rfl) _
      have h1 : SmI bk bm key most xs (i + 1) (s - 1) (w.setCell ⟨bm, 0, none⟩ (.int .i64 (s - 1))) := by
        refine ⟨?_, ?_, World.cell?_setCell_same _ _ _ h.m0, by rw [World.frozen?_setCell]; exact h.fm⟩
        · rw [hrun, ← h.ms]; unfold smStep; rw [if_pos hn]
        · rw [World.cell?_setCell_other _ _ _ _ (by intro e; injection e with e; exact hne e.symm)]; exact h.k0
      exact ⟨rfl, s - 1, h1.frm ((Frm.refl _ (fun _ => False)).alloc _) id id, hset.alloc _, fun k hk => .inl hk⟩
    · have e : smSo key most xs i = false := by
        rw [smSo_at _ _ _ _ hi, ← h.ms]
        by_cases h1 : xs[i].k = key
        · have : ¬ 0 < s := fun h2 => hn ⟨h1, h2⟩
          simp [this]
        · simp [h1]
      rw [e]
      refine (clos64_no bk bm i xs[i] key s w h.k0 h.m0 hn).mono ?_
      rintro e w' ⟨rfl, hf⟩
      have h1 := h.frm hf id id
      exact ⟨rfl, s, ⟨by rw [hrun, ← h.ms]; unfold smStep; rw [if_neg hn], h1.k0, h1.m0, h1.fm⟩, hf.none_ _, fun k hk => .inl hk⟩
/-- Whoever is taken by Some, whoever is left. -/
def smTaken (key most : Int) (xs : List En) : List En := sel (smSo key most xs) xs xs.length
def smLeft (key most : Int) (xs : List En) : List En := sel (fun i => !(smSo key most xs i)) xs xs.length
set_option maxRecDepth 100000 in
set_option maxHeartbeats 1000000 in
theorem some_any (A : Option Addr) (n c : Nat) (key most : Int) (hmost : most ≤ 9223372036854775807) (xs : List En) (w : World) (hr : Rd w w.heap.size 3 A n (ens xs)) (hn : (n : Int) ≤ 1000) (hA : ∀ j, blk A j → j < w.heap.size) :
    Calls Try.prog 29 #[.slice A n c, .int .u32 key, .int .i64 most] w fun e w' => ∃ v Ay An, e = .returned v ∧ Pair2 w w' v (smTaken key most xs) (smLeft key most xs) Ay An ∧ Frm w w' fun _ => False := by
  obtain ⟨W, hW⟩ : ∃ W, W = (w.alloc (.cells #[.int .u32 key] 24)).alloc (.cells #[.int .i64 most] 3) := ⟨_, rfl⟩
  have hfW : Frm w W fun _ => False := by rw [hW]; exact ((Frm.refl _ _).alloc _).alloc _
  have hI : SmI w.heap.size (w.heap.size + 1) key most xs 0 most W := by
    refine ⟨rfl, ?_, ?_, ?_⟩
    · rw [hW, World.cell?_alloc_past _ _ _ (by simp), World.cell?_alloc_new]; rfl
    · rw [hW]
      simp
    · rw [hW]
      simp
  have hsz : W.heap.size = w.heap.size + 2 := by rw [hW]; simp
  have hpart := part_64 (.pointer (some ⟨w.heap.size, 0, none⟩)) (.pointer (some ⟨w.heap.size + 1, 0, none⟩)) xs (SmI w.heap.size (w.heap.size + 1) key most xs) (fun _ k => k = w.heap.size + 1) (smSo key most xs) (w.heap.size + 2) W
    (clos64 w.heap.size (w.heap.size + 1) (w.heap.size + 2) key most (by omega) (by omega) hmost xs) (by omega) A n c (hr.new_ hfW) hn most hI (fun j hj ho => by have := hA j hj; omega)
  rw [hW] at hpart
  have HP := Lib.hid hpart
  have HW := Lib.hid hW
  have HF := Lib.hid hfW
  have HSZ := Lib.hid hsz
  clear hpart hI hr hA hW hfW hsz
  go_enter Try.func29, Try.ntmps29
  go_wp2_with (go_at_call 58; refine HP.out.mono ?_; rintro e w2 ⟨v, rfl, hd⟩; obtain ⟨Ay, An, s, rfl, hM⟩ := hd; have M := Lib.hid hM; clear hM)
  go_ret2
  have M' : Mid (smSo key most xs) xs (SmI w.heap.size (w.heap.size + 1) key most xs) (fun _ k => k = w.heap.size + 1) most W w2 xs.length xs.length Ay (smTaken key most xs).length An (smLeft key most xs).length s := by rw [HW.out]; exact M.out
  have hsz := HSZ.out
  exact ⟨_, Ay, An, rfl, ⟨rfl, M'.sy.mono (by omega), M'.sn.mono (by omega), M'.dyn⟩, HF.out.fresh M'.frm (fun j hj => by omega)⟩
end Go.Proofs.Ytaenclbbiodhfaa
