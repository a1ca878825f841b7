import Derived.Test.YtaenclbbiodhfaaLnH
import Derived.Test.YtaenclbbiodhfaaLnE
import Derived.Test.YtaenclbbiodhfaaLnI
import Derived.Test.YtaenclbbiodhfaaLnJ
namespace Go.Proofs.Ytaenclbbiodhfaa
open Go.RowKit

def cutSo (at_ : Int) (i : Nat) : Bool := decide ((i : Int) = at_)
/-- The entry that is cut out, whoever is left. -/
def cutX (at_ : Int) (xs : List En) : En := if 0 ≤ at_ then xs[at_.toNat]?.getD ⟨0, 0, 0⟩ else ⟨0, 0, 0⟩
def cutLeft (at_ : Int) (xs : List En) (k : Nat) : List En := sel (fun i => !(cutSo at_ i)) xs k
theorem sel_cut (at_ : Int) (xs : List En) : ∀ k, k ≤ xs.length → sel (cutSo at_) xs k = if 0 ≤ at_ ∧ at_ < (k : Int) then [cutX at_ xs] else [] := by
  intro k hk
  induction k with
  | zero => rw [sel_zero, if_neg (by omega)]
  | succ k ih =>
    rw [sel_succ _ xs k (by omega), ih (by omega)]
    by_cases h : (k : Int) = at_
    · have e : cutSo at_ k = true := by simp [cutSo, h]
      rw [e, if_neg (show ¬ (0 ≤ at_ ∧ at_ < (k : Int)) by omega), if_pos (show 0 ≤ at_ ∧ at_ < ((k + 1 : Nat) : Int) by omega)]
      have : cutX at_ xs = xs[k] := by
        unfold cutX
        rw [if_pos (by omega)]
        have : at_.toNat = k := by omega
        rw [this, List.getElem?_eq_getElem (by omega)]; rfl
      simp [this]
    · have e : cutSo at_ k = false := by simp [cutSo, h]
      rw [e]
      by_cases h2 : 0 ≤ at_ ∧ at_ < (k : Int)
      · rw [if_pos h2, if_pos (show 0 ≤ at_ ∧ at_ < ((k + 1 : Nat) : Int) by omega)]; rfl
      · rw [if_neg h2, if_neg (show ¬ (0 ≤ at_ ∧ at_ < ((k + 1 : Nat) : Int)) by omega)]; rfl
theorem cutX_out (at_ : Int) (xs : List En) (h : ¬ (0 ≤ at_ ∧ at_ < (xs.length : Int))) : cutX at_ xs = ⟨0, 0, 0⟩ := by
  unfold cutX
  split
  · rw [List.getElem?_eq_none (by omega)]; rfl
  · rfl
set_option maxRecDepth 100000 in
theorem clos63_step (bn i : Nat) (x : En) (at_ : Int) (w : World) (k0 : w.cell? ⟨bn, 0, none⟩ = some (.int .i64 at_)) :
    Calls Try.prog 63 #[.int .i64 (i : Int), En.val x, .pointer (some ⟨bn, 0, none⟩)] w fun e w' => e = .returned (.bool (cutSo at_ i)) ∧ Frm w w' fun _ => False := by
  have l1 := World.block_lt_of_cell? w _ k0
  simp only at l1
  unfold cutSo
  by_cases h : (i : Int) = at_
  · subst h
    go_enter Try.func63, Try.ntmps63
    go_wp2_with fail
    go_ret
    exact ⟨by simp, (Frm.refl _ _).alloc _⟩
  · have b1 : ((i : Int) == at_) = false := by simp [h]
    rw [decide_eq_false h]
    clear h
    go_enter Try.func63, Try.ntmps63
    go_wp2_with fail
    go_ret
    exact ⟨rfl, (Frm.refl _ _).alloc _⟩
theorem clos63 (bn B : Nat) (at_ : Int) (hb : bn < B) (xs : List En) :
    Clos 63 (fun i x => #[.int .i64 (i : Int), En.val x, .pointer (some ⟨bn, 0, none⟩)]) xs Unit (fun _ _ w => w.cell? ⟨bn, 0, none⟩ = some (.int .i64 at_)) (fun _ _ => False) (cutSo at_) B := by
  refine ⟨fun i s w w' S h hf _ hB => hf.cell h (fun hs => by have := hB _ hs; simp at this; omega), fun i s w k _ h => h.elim, fun i hi s w h => ?_⟩
  refine (clos63_step bn i xs[i] at_ w h).mono ?_
  rintro e w' ⟨rfl, hf⟩
  exact ⟨rfl, (), hf.cell h id, hf, fun k h => .inl h⟩
/-- What part gives Cut. -/
def CutGot (w W w2 : World) (e : Ending) (ys zs : List En) (k : Nat) : Prop := ∃ Ay An, e = .returned (.tuple #[.slice Ay k k, .slice An zs.length zs.length]) ∧ Sl w2 (w.heap.size + 2) 3 Ay k k (ens ys) ∧ Sl w2 (w.heap.size + 2) 3 An zs.length zs.length (ens zs) ∧ Frm W w2 fun _ => False
set_option maxRecDepth 100000 in
set_option maxHeartbeats 1000000 in
theorem cut_any (A : Option Addr) (n c : Nat) (at_ : Int) (xs : List En) (w : World) (hr : Rd w w.heap.size 3 A n (ens xs)) (hn : (n : Int) ≤ 1000) :
    Calls Try.prog 23 #[.slice A n c, .int .i64 at_] w fun e w' => ∃ An, e = .returned (.tuple #[En.val (cutX at_ xs), .slice An (cutLeft at_ xs xs.length).length (cutLeft at_ xs xs.length).length, .bool (decide (0 ≤ at_) && decide (at_ < (n : Int)))]) ∧
      Sl w' w.heap.size 3 An (cutLeft at_ xs xs.length).length (cutLeft at_ xs xs.length).length (ens (cutLeft at_ xs xs.length)) ∧ Frm w w' fun _ => False := by
  obtain ⟨W, hW⟩ : ∃ W, W = (w.alloc (.cells #[.int .i64 at_] 3)).alloc (.cells #[.int .i64 0, .int .u32 0, .int .u64 0] 35) := ⟨_, rfl⟩
  have hfW : Frm w W fun _ => False := by rw [hW]; exact ((Frm.refl _ _).alloc _).alloc _
  have hI : W.cell? ⟨w.heap.size, 0, none⟩ = some (.int .i64 at_) := by rw [hW, World.cell?_alloc_past _ _ _ (by simp), World.cell?_alloc_new]; rfl
  have hsz : W.heap.size = w.heap.size + 2 := by rw [hW]; simp
  have r0 : W.cell? ⟨w.heap.size + 1, 0, none⟩ = some (.int .i64 0) ∧ W.cell? ⟨w.heap.size + 1, 1, none⟩ = some (.int .u32 0) ∧ W.cell? ⟨w.heap.size + 1, 2, none⟩ = some (.int .u64 0) := by
    rw [hW]; refine ⟨?_, ?_, ?_⟩ <;> simp
  have t0 : ∀ o, W.frozen? ⟨w.heap.size + 1, o, none⟩ = false := by intro o; rw [hW]; simp
  have hxl := (Rd.ens hr).1
  have hpart := part_63 (.pointer (some ⟨w.heap.size, 0, none⟩)) xs (fun _ (_ : Unit) w' => w'.cell? ⟨w.heap.size, 0, none⟩ = some (.int .i64 at_)) (fun _ _ => False) (cutSo at_) (w.heap.size + 1) W
    (clos63 w.heap.size (w.heap.size + 1) at_ (by omega) xs) (by omega) A n c (hr.new_ hfW) hn () hI (fun j hj ho => ho)
  obtain ⟨zs, hzs⟩ : ∃ zs, zs = cutLeft at_ xs xs.length := ⟨_, rfl⟩
  have hgot : Calls Try.prog 58 #[.slice A n c, .func (.func 63) #[] #[.pointer (some ⟨w.heap.size, 0, none⟩)]] W fun e w2 => CutGot w W w2 e (sel (cutSo at_) xs xs.length) zs (sel (cutSo at_) xs xs.length).length := by
    refine hpart.mono ?_
    rintro e w2 ⟨v, rfl, Ay, An, s, rfl, M⟩
    refine ⟨Ay, An, ?_, M.sy.mono (by omega), ?_, M.frm⟩
    · rw [hzs]; rfl
    · rw [hzs]; exact M.sn.mono (by omega)
  have hsel := sel_cut at_ xs xs.length (Nat.le_refl _)
  rw [← hzs]
  rw [hW] at hgot
  have HW := Lib.hid hW
  have HF := Lib.hid hfW
  have R0 := Lib.hid r0
  have T0 := Lib.hid t0
  by_cases hat : 0 ≤ at_ ∧ at_ < (n : Int)
  · rw [if_pos (show 0 ≤ at_ ∧ at_ < (xs.length : Int) by omega)] at hsel
    have eb : (decide (0 ≤ at_) && decide (at_ < (n : Int))) = true := by simp [hat.1, hat.2]
    rw [eb]
    obtain ⟨y, hy⟩ : ∃ y, y = cutX at_ xs := ⟨_, rfl⟩
    rw [← hy] at hsel ⊢
    rw [hsel, show [y].length = 1 from rfl] at hgot
    have HP := Lib.hid hgot
    clear hpart hI hr hW hfW hsz hzs hsel hat eb hxl hy hn r0 t0 hgot
    go_enter Try.func23, Try.ntmps23
    go_wp2_with fail
    refine HP.out.mono ?_
    rw [← HW.out]
    rintro e w2 ⟨Ay, An, rfl, hy, hz, hf⟩
    obtain ⟨hl1, ga, oa, rfl, hga, hgb, ca⟩ := hy.ens (by simp)
    have c0 : w2.cell? ⟨ga, oa, none⟩ = some (.int .i64 y.t) := (ca 0 (by simp)).1
    have c1 : w2.cell? ⟨ga, oa + 1, none⟩ = some (.int .u32 y.k) := (ca 0 (by simp)).2.1
    have c2 : w2.cell? ⟨ga, oa + 2, none⟩ = some (.int .u64 y.tok) := (ca 0 (by simp)).2.2
    have d0 := hf.cell R0.out.1 id
    have d1 := hf.cell R0.out.2.1 id
    have d2 := hf.cell R0.out.2.2 id
    have t0 := (hf.frozen (World.block_lt_of_cell? _ _ R0.out.1) id).trans (T0.out 0)
    have t1 := (hf.frozen (World.block_lt_of_cell? _ _ R0.out.2.1) id).trans (T0.out 1)
    have t2 := (hf.frozen (World.block_lt_of_cell? _ _ R0.out.2.2) id).trans (T0.out 2)
    have Z := Lib.hid hz
    have F := Lib.hid hf
    have ne1 : ¬ ga = w.heap.size + 1 := by omega
    have ne2 : ¬ w.heap.size + 1 = ga := by omega
    clear hz hf ca hy hga hgb hl1
    go_wp2_with fail
    refine bodyPost_ret (v := .tuple #[En.val y, .slice An zs.length zs.length, .bool true]) (by simp [En.val, results, Try.results23, go_sem, d0, d1, d2]) rfl ⟨An, rfl, ?_, ?_⟩
    · have hs : Frm w2 (((w2.setCell ⟨w.heap.size + 1, 0, none⟩ (.int .i64 y.t)).setCell ⟨w.heap.size + 1, 1, none⟩ (.int .u32 y.k)).setCell ⟨w.heap.size + 1, 2, none⟩ (.int .u64 y.tok)) (fun j => j = w.heap.size + 1) :=
        (((Frm.refl w2 _).setCell (p := ⟨w.heap.size + 1, 0, none⟩) (S := fun j => j = w.heap.size + 1) (fun _ => rfl) _).setCell (p := ⟨w.heap.size + 1, 1, none⟩) (fun _ => rfl) _).setCell (p := ⟨w.heap.size + 1, 2, none⟩) (fun _ => rfl) _
      exact (Z.out.frm hs (fun j hj => by have := Z.out.ge hj; omega)).mono (by omega)
    · refine HF.out.fresh (S := fun j => j = w.heap.size + 1) ?_ (fun j hj => by omega)
      exact (((F.out.none_ _).setCell (p := ⟨w.heap.size + 1, 0, none⟩) (S := fun j => j = w.heap.size + 1) (fun _ => rfl) _).setCell (p := ⟨w.heap.size + 1, 1, none⟩) (fun _ => rfl) _).setCell (p := ⟨w.heap.size + 1, 2, none⟩) (fun _ => rfl) _
  · rw [if_neg (show ¬ (0 ≤ at_ ∧ at_ < (xs.length : Int)) by omega)] at hsel
    have eb : (decide (0 ≤ at_) && decide (at_ < (n : Int))) = false := by
      by_cases h : 0 ≤ at_ <;> simp [h]; omega
    rw [eb, cutX_out at_ xs (by omega)]
    rw [hsel, show ([] : List En).length = 0 from rfl] at hgot
    have HP := Lib.hid hgot
    clear hpart hI hr hW hfW hsz hzs hsel hat eb hxl hn r0 t0 hgot
    go_enter Try.func23, Try.ntmps23
    go_wp2_with fail
    refine HP.out.mono ?_
    rw [← HW.out]
    rintro e w2 ⟨Ay, An, rfl, hy, hz, hf⟩
    have d0 := hf.cell R0.out.1 id
    have d1 := hf.cell R0.out.2.1 id
    have d2 := hf.cell R0.out.2.2 id
    have t0 := (hf.frozen (World.block_lt_of_cell? _ _ R0.out.1) id).trans (T0.out 0)
    have t1 := (hf.frozen (World.block_lt_of_cell? _ _ R0.out.2.1) id).trans (T0.out 1)
    have t2 := (hf.frozen (World.block_lt_of_cell? _ _ R0.out.2.2) id).trans (T0.out 2)
    have Z := Lib.hid hz
    have F := Lib.hid hf
    clear hz hf hy
    go_wp2_with fail
    refine bodyPost_ret (v := .tuple #[En.val ⟨0, 0, 0⟩, .slice An zs.length zs.length, .bool false]) (by simp [En.val, results, Try.results23, go_sem, d0, d1, d2]) rfl ⟨An, rfl, ?_, ?_⟩
    · have hs : Frm w2 (((w2.setCell ⟨w.heap.size + 1, 0, none⟩ (.int .i64 0)).setCell ⟨w.heap.size + 1, 1, none⟩ (.int .u32 0)).setCell ⟨w.heap.size + 1, 2, none⟩ (.int .u64 0)) (fun j => j = w.heap.size + 1) :=
        (((Frm.refl w2 _).setCell (p := ⟨w.heap.size + 1, 0, none⟩) (S := fun j => j = w.heap.size + 1) (fun _ => rfl) _).setCell (p := ⟨w.heap.size + 1, 1, none⟩) (fun _ => rfl) _).setCell (p := ⟨w.heap.size + 1, 2, none⟩) (fun _ => rfl) _
      exact (Z.out.frm hs (fun j hj => by have := Z.out.ge hj; omega)).mono (by omega)
    · refine HF.out.fresh (S := fun j => j = w.heap.size + 1) ?_ (fun j hj => by omega)
      exact (((F.out.none_ _).setCell (p := ⟨w.heap.size + 1, 0, none⟩) (S := fun j => j = w.heap.size + 1) (fun _ => rfl) _).setCell (p := ⟨w.heap.size + 1, 1, none⟩) (fun _ => rfl) _).setCell (p := ⟨w.heap.size + 1, 2, none⟩) (fun _ => rfl) _
end Go.Proofs.Ytaenclbbiodhfaa
