import Derived.Test.YtaenclbbiodhfaaLnB
import Derived.Deep.DrawnRows
namespace Go.Proofs.Ytaenclbbiodhfaa
open Go.RowKit

/-- Tokens as cells. -/
def uz (l : List Int) : List Value := l.map (Value.int .u64)
theorem uz_one (l : List Int) : ∀ u ∈ uz l, u.oneCell' = true := by intro u hu; simp [uz] at hu; obtain ⟨n, _, rfl⟩ := hu; rfl
/-- Choices as cells. -/
def bz (l : List Nat) : List Value := l.map fun (n : Nat) => .int .u8 (n : Int)
theorem info33' : (Try.prog.info? 33).map (fun i => (i.zero, i.size, i.bytes)) = some (some (.int .u64 0), 1, 8) := by kernel_rfl
/-- A filter that chooses one behind the other, behind a pointer. -/
structure RowM (w : World) (B b : Nat) (X : Option Addr) (m cx : Nat) (A : Option Addr) (cap : Nat) (asked : List Int) : Prop where
  c0 : w.cell? ⟨b, 0, none⟩ = some (.slice X m cx)
  c1 : w.cell? ⟨b, 1, none⟩ = some (.slice A asked.length cap)
  free : w.frozen? ⟨b, 1, none⟩ = false
  lt : b < B
  sl : Sl w B 1 A asked.length cap (uz asked)
section
variable {w w' w1 w2 : World} {B b m cx cap : Nat} {X A : Option Addr} {asked : List Int} {S : Nat → Prop}
theorem RowM.blt (h : RowM w B b X m cx A cap asked) : b < w.heap.size := World.block_lt_of_cell? w _ h.c0
theorem RowM.frm (h : RowM w B b X m cx A cap asked) (hf : Frm w w' S) (hb : ¬ S b) (hA : ∀ k, blk A k → ¬ S k) : RowM w' B b X m cx A cap asked :=
  ⟨hf.cell h.c0 hb, hf.cell h.c1 hb, (hf.frozen (p := ⟨b, 1, none⟩) h.blt hb).trans h.free, h.lt, h.sl.frm hf hA⟩
theorem RowM.new_ (h : RowM w B b X m cx A cap asked) (hf : Frm w w' fun _ => False) : RowM w' B b X m cx A cap asked := h.frm hf id fun _ _ => id
theorem RowM.nb (h : RowM w B b X m cx A cap asked) : ¬ blk A b := fun hk => by have := (h.sl.ge hk).1; have := h.lt; omega
/-- What an asking leaves. -/
def RowAsked (w w' : World) (B b : Nat) (X : Option Addr) (m cx : Nat) (A : Option Addr) (asked : List Int) : Prop :=
  ∃ A' cap', RowM w' B b X m cx A' cap' asked ∧ Frm w w' (fun k => k = b ∨ blk A k) ∧ ∀ k, blk A' k → blk A k ∨ w.heap.size ≤ k
theorem RowM.put (h : RowM w B b X m cx A cap asked) {tok : Int} {A' : Option Addr} {cap' : Nat} (hf : Frm w w1 fun _ => False) (ha : Appended w1 w2 B 1 A A' (asked.length + 1) cap' (uz asked ++ [.int .u64 tok])) :
    RowAsked w (w2.setCell ⟨b, 1, none⟩ (.slice A' (asked.length + 1) cap')) B b X m cx A (asked ++ [tok]) := by
  obtain ⟨hs, hf2, hw⟩ := ha
  have hb2 := hf2.cell (hf.cell h.c1 id) h.nb
  have nb' : ¬ blk A' b := fun hk => by have := (hs.ge hk).1; have := h.lt; omega
  have hlt := h.blt
  refine ⟨A', cap', ⟨?_, ?_, ?_, h.lt, ?_⟩, ?_, fun k hk => (hw k hk).imp id (fun h => Nat.le_trans hf.size h)⟩
  · rw [World.cell?_setCell_other _ _ _ _ (by intro e; injection e with _ e; cases e)]; exact hf2.cell (hf.cell h.c0 id) h.nb
  · rw [World.cell?_setCell_same _ _ _ hb2]; simp
  · rw [World.frozen?_setCell, hf2.frozen (p := ⟨b, 1, none⟩) (Nat.lt_of_lt_of_le hlt hf.size) h.nb, hf.frozen (p := ⟨b, 1, none⟩) hlt id]; exact h.free
  · have := hs.setCell (p := ⟨b, 1, none⟩) nb' (.slice A' (asked.length + 1) cap')
    simpa [uz] using this
  · exact ((hf.none_ _).trans hf2 (fun k _ hh => .inr hh)).setCell (p := ⟨b, 1, none⟩) (fun _ => .inl rfl) _
end
theorem RowAsked.after {w w' w'' : World} {B b m cx : Nat} {X A : Option Addr} {asked : List Int} (h : RowAsked w w' B b X m cx A asked) (hf : Frm w' w'' fun _ => False) : RowAsked w w'' B b X m cx A asked := by
  obtain ⟨A', cap', hr, hf2, ho⟩ := h
  exact ⟨A', cap', hr.new_ hf, hf2.trans hf (fun _ _ h => h.elim), ho⟩
theorem RowM.put' {w w1 w2 : World} {B b m cx cap n cap' : Nat} {X A A' : Option Addr} {asked : List Int} {tok : Int} (h : RowM w B b X m cx A cap asked) (hn : asked.length = n) (hf : Frm w w1 fun _ => False) (ha : Appended w1 w2 B 1 A A' (n + 1) cap' (uz asked ++ [.int .u64 tok])) :
    RowAsked w (w2.setCell ⟨b, 1, none⟩ (.slice A' (n + 1) cap')) B b X m cx A (asked ++ [tok]) := by subst hn; exact h.put hf ha
theorem RowM.app {w w1 w2 : World} {B b m cx cap n k cap' : Nat} {X A A' : Option Addr} {asked : List Int} {ys : List Value} (h : RowM w B b X m cx A cap asked) (hn : asked.length = n) (hf : Frm w w1 fun _ => False) (ha : Appended w1 w2 B 1 A A' k cap' ys) :
    w2.cell? ⟨b, 0, none⟩ = some (.slice X m cx) ∧ w2.cell? ⟨b, 1, none⟩ = some (.slice A n cap) ∧ w2.frozen? ⟨b, 1, none⟩ = false := by
  subst hn
  exact ⟨ha.2.1.cell (hf.cell h.c0 id) h.nb, ha.2.1.cell (hf.cell h.c1 id) h.nb, (ha.2.1.frozen (p := ⟨b, 1, none⟩) (Nat.lt_of_lt_of_le h.blt hf.size) h.nb).trans ((hf.frozen (p := ⟨b, 1, none⟩) h.blt id).trans h.free)⟩
/-- What is chosen of the n-th asked. -/
def chV (ch : List Nat) (n : Nat) : Nat := if n < ch.length then ch.getD n 0 % 4 else 2
theorem bz_cells {w : World} {B m : Nat} {A : Option Addr} {l : List Nat} (h : Rd w B 1 A m (bz l)) : m = l.length ∧ (0 < m → ∃ g off, A = some ⟨g, off, none⟩ ∧ g < B ∧ ∀ i, i < l.length → w.cell? ⟨g, off + i, none⟩ = some (.int .u8 (l.getD i 0 : Nat))) := by
  have hm : m = l.length := by have := h.1; simp [bz] at this; omega
  refine ⟨hm, fun hp => ?_⟩
  obtain ⟨g, off, e, hg, hc⟩ := h.2 (by simp [bz]; omega)
  exact ⟨g, off, e, hg, fun i hi => hc i _ (by simp [bz, hi])⟩
set_option maxRecDepth 100000 in
set_option maxHeartbeats 1000000 in
theorem choose_in (B b m cx cap : Nat) (X A : Option Addr) (asked : List Int) (ch : List Nat) (tok : Int) (w : World) (h : RowM w B b X m cx A cap asked) (hch : Rd w w.heap.size 1 X m (bz ch)) (hu : ∀ c ∈ ch, c ≤ 255) (hX : ∀ j, blk X j → ¬ j = b ∧ ¬ blk A j) (hB : B ≤ w.heap.size) (hfew : (asked.length : Int) ≤ 1000) (hn : asked.length < m) :
    Calls Try.prog 101 #[.pointer (some ⟨b, 0, none⟩), .int .u64 tok] w fun e w' => e = .returned (.int .u8 (ch.getD asked.length 0 % 4 : Nat)) ∧ RowAsked w w' B b X m cx A (asked ++ [tok]) := by
  obtain ⟨n, hnn⟩ : ∃ n, asked.length = n := ⟨_, rfl⟩
  obtain ⟨i33, hi, hz0, hz1, hz2⟩ := info_parts info33'
  obtain ⟨hml, hcells⟩ := bz_cells hch
  obtain ⟨g, off, rfl, hg, hcell⟩ := hcells (by omega)
  have hc := hcell n (by omega)
  obtain ⟨x, hx⟩ : ∃ x, ch.getD n 0 = x := ⟨_, rfl⟩
  rw [hx] at hc
  have hxl : (x : Int) ≤ 255 := by
    have : x ∈ ch := by rw [← hx, List.getD_eq_getElem?_getD, List.getElem?_eq_getElem (by omega)]; exact List.getElem_mem _
    have := hu x this; omega
  rw [hnn, hx]
  have c1 := h.c1
  rw [hnn] at c1
  have f1 := h.free
  have H := Lib.hid h
  have S := Lib.hid (show Sl w B 1 A n cap (uz asked) by have := h.sl; rw [hnn] at this; exact this)
  have HNN := Lib.hid hnn
  have hgx := hX g ((blk_some _ _ _).2 rfl)
  have r1 : n + 1 ≤ maxLen ∧ (n + 1) * 8 ≤ 140737488355328 := by unfold maxLen; omega
  rw [hnn] at hn hfew
  have i0 : (0 : Int) ≤ (n : Int) := by omega
  have i1 : (n : Int) < (m : Int) := by omega
  have i2 : (n : Int) + 1 ≤ (m : Int) := by omega
  have i3 : decide ((m : Int) < (n : Int) + 1) = false := by simp; omega
  have hne : ¬ b = g := fun e => hgx.1 e.symm
  clear h hch hnn hcells hcell hx hml hX hu
  go_enter Try.func101, Try.ntmps101
  go_wp2_with (at_builtin; refine wpList_append_sl _ rfl (.tmp 9) (.tmp 11) 28 rfl B 33 i33 _ 1 8 Try.underlying28 hi hz0 hz1 hz2 rfl (by decide) _ _ _ _ rfl (S.out.alloc _) _ 1 1 [.int .u64 tok] rfl (Rd.fresh_at _ 33 #[.int .u64 tok] rfl rfl) (by intro u hu; simp at hu; subst hu; rfl) r1.1 r1.2 (by simp; omega) ?_; intro A' cap' w3 hap; obtain ⟨c30, c31, f31⟩ := H.out.app HNN.out ((Frm.refl _ _).alloc _) hap; have c3 := hap.2.1.cell ((Frm.refl _ (fun _ => False)).alloc _ |>.cell hc id) hgx.2; replace hap := Lib.hid hap)
  go_quiet (fail)
  go_wp2_with fail
  go_quiet (fail)
  go_wp2_with fail
  go_ret
  exact ⟨by go_num, (H.out.put' HNN.out ((Frm.refl _ _).alloc _) hap.out).after ((((Frm.refl _ _).drewN _)).drewN _)⟩
set_option maxRecDepth 100000 in
set_option maxHeartbeats 1000000 in
theorem choose_out (B b m cx cap : Nat) (X A : Option Addr) (asked : List Int) (tok : Int) (w : World) (h : RowM w B b X m cx A cap asked) (hB : B ≤ w.heap.size) (hfew : (asked.length : Int) ≤ 1000) (hn : m ≤ asked.length) :
    Calls Try.prog 101 #[.pointer (some ⟨b, 0, none⟩), .int .u64 tok] w fun e w' => e = .returned (.int .u8 2) ∧ RowAsked w w' B b X m cx A (asked ++ [tok]) := by
  obtain ⟨n, hnn⟩ : ∃ n, asked.length = n := ⟨_, rfl⟩
  obtain ⟨i33, hi, hz0, hz1, hz2⟩ := info_parts info33'
  rw [hnn] at hn
  have c1 := h.c1
  rw [hnn] at c1
  have f1 := h.free
  have H := Lib.hid h
  have S := Lib.hid (show Sl w B 1 A n cap (uz asked) by have := h.sl; rw [hnn] at this; exact this)
  have HNN := Lib.hid hnn
  have r1 : n + 1 ≤ maxLen ∧ (n + 1) * 8 ≤ 140737488355328 := by unfold maxLen; omega
  rw [hnn] at hfew
  have i0 : (0 : Int) ≤ (n : Int) := by omega
  have i3 : decide ((m : Int) < (n : Int) + 1) = true := by simp; omega
  have i4 : (m : Int) < (n : Int) + 1 := by omega
  clear h hnn
  go_enter Try.func101, Try.ntmps101
  go_wp2_with (at_builtin; refine wpList_append_sl _ rfl (.tmp 9) (.tmp 11) 28 rfl B 33 i33 _ 1 8 Try.underlying28 hi hz0 hz1 hz2 rfl (by decide) _ _ _ _ rfl (S.out.alloc _) _ 1 1 [.int .u64 tok] rfl (Rd.fresh_at _ 33 #[.int .u64 tok] rfl rfl) (by intro u hu; simp at hu; subst hu; rfl) r1.1 r1.2 (by simp; omega) ?_; intro A' cap' w3 hap; obtain ⟨c30, c31, f31⟩ := H.out.app HNN.out ((Frm.refl _ _).alloc _) hap; replace hap := Lib.hid hap)
  go_quiet (fail)
  go_wp2_with fail
  go_ret
  exact ⟨by go_num, (H.out.put' HNN.out ((Frm.refl _ _).alloc _) hap.out).after ((Frm.refl _ _).drewN _)⟩
theorem choose_any (B b m cx cap : Nat) (X A : Option Addr) (asked : List Int) (ch : List Nat) (tok : Int) (w : World) (h : RowM w B b X m cx A cap asked) (hch : Rd w w.heap.size 1 X m (bz ch)) (hu : ∀ c ∈ ch, c ≤ 255) (hX : ∀ j, blk X j → ¬ j = b ∧ ¬ blk A j) (hB : B ≤ w.heap.size) (hfew : (asked.length : Int) ≤ 1000) :
    Calls Try.prog 101 #[.pointer (some ⟨b, 0, none⟩), .int .u64 tok] w fun e w' => e = .returned (.int .u8 (chV ch asked.length : Nat)) ∧ RowAsked w w' B b X m cx A (asked ++ [tok]) := by
  have hm := (bz_cells hch).1
  by_cases hn : asked.length < m
  · have e : chV ch asked.length = ch.getD asked.length 0 % 4 := by unfold chV; rw [if_pos (by omega)]
    rw [e]; exact choose_in B b m cx cap X A asked ch tok w h hch hu hX hB hfew hn
  · have e : chV ch asked.length = 2 := by unfold chV; rw [if_neg (by omega)]
    rw [e]; exact choose_out B b m cx cap X A asked tok w h hB hfew (by omega)
end Go.Proofs.Ytaenclbbiodhfaa
