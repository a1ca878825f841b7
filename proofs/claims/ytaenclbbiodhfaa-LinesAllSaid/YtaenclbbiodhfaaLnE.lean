import Derived.Test.YtaenclbbiodhfaaLnD
namespace Go.Proofs.Ytaenclbbiodhfaa
open Go.RowKit

/-- Whoever is taken, whoever is left. -/
def chTaken (ch : List Nat) (key : Int) (xs : List En) : List En := sel (chSo ch key xs) xs xs.length
def chLeft (ch : List Nat) (key : Int) (xs : List En) : List En := sel (fun i => !(chSo ch key xs i)) xs xs.length
/-- Two lists of the call's own, with no room behind them. -/
structure Pair2 (w w' : World) (v : Value) (ys zs : List En) (Ay An : Option Addr) : Prop where
  v : v = .tuple #[.slice Ay ys.length ys.length, .slice An zs.length zs.length]
  sy : Sl w' w.heap.size 3 Ay ys.length ys.length (ens ys)
  sn : Sl w' w.heap.size 3 An zs.length zs.length (ens zs)
  dj : ∀ j, blk Ay j → ¬ blk An j
set_option maxRecDepth 100000 in
set_option maxHeartbeats 1000000 in
theorem chosen_any (A X : Option Addr) (n c m cx br : Nat) (key : Int) (xs : List En) (ch : List Nat) (w : World) (hr : Rd w w.heap.size 3 A n (ens xs)) (hn : (n : Int) ≤ 1000) (hch : Rd w w.heap.size 1 X m (bz ch)) (hu : ∀ c ∈ ch, c ≤ 255) (hX : ∀ j, blk X j → ¬ j = br ∧ j < w.heap.size) (hA : ∀ j, blk A j → ¬ j = br ∧ j < w.heap.size)
    (c0 : w.cell? ⟨br, 0, none⟩ = some (.slice X m cx)) (c1 : w.cell? ⟨br, 1, none⟩ = some (.slice none 0 0)) (f1 : w.frozen? ⟨br, 1, none⟩ = false) :
    Calls Try.prog 15 #[.slice A n c, .int .u32 key, .iface 27 (.pointer (some ⟨br, 0, none⟩))] w fun e w' => ∃ v Ay An A' cap', e = .returned v ∧ Pair2 w w' v (chTaken ch key xs) (chLeft ch key xs) Ay An ∧
      RowM w' w.heap.size br X m cx A' cap' (chRun ch key xs).2 ∧ Frm w w' (fun k => k = br) ∧ ∀ j, blk A' j → ¬ blk Ay j ∧ ¬ blk An j := by
  have hbr := World.block_lt_of_cell? w _ c0
  simp only at hbr
  have hf : ∀ a b d : Obj, Frm w (((w.alloc a).alloc b).alloc d) fun _ => False := fun a b d => (((Frm.refl _ _).alloc _).alloc _).alloc _
  obtain ⟨p, hp⟩ : ∃ p : ChP, p = ⟨w.heap.size + 3, w.heap.size, w.heap.size + 2, w.heap.size + 1, br, X, m, cx, key, ch⟩ := ⟨_, rfl⟩
  have e2 : p.bk = w.heap.size ∧ p.bo = w.heap.size + 2 ∧ p.bf = w.heap.size + 1 ∧ p.B = w.heap.size + 3 ∧ p.key = key ∧ p.ch = ch ∧ p.br = br ∧ p.X = X ∧ p.m = m ∧ p.cx = cx := by subst hp; exact ⟨rfl, rfl, rfl, rfl, rfl, rfl, rfl, rfl, rfl, rfl⟩
  obtain ⟨ebk, ebo, ebf, eB, ek, ec, ebr, eX, em, ecx⟩ := e2
  have ok : p.Ok := ⟨by omega, by omega, by omega, by omega, fun j hj => by rw [eX] at hj; have := hX j hj; omega, by omega, by omega, by omega, by omega, by omega, by rw [ec]; exact hu⟩
  have hxl := (Rd.ens hr).1
  obtain ⟨W, hW⟩ : ∃ W, W = ((w.alloc (.cells #[.int .u32 key] 24)).alloc (.cells #[.iface 27 (.pointer (some ⟨br, 0, none⟩))] 107)).alloc (.cells #[.bool true] 4) := ⟨_, rfl⟩
  have hfW : Frm w W fun _ => False := by rw [hW]; exact hf _ _ _
  have hI : ChI p xs 0 ⟨true, none, 0, []⟩ W := by
    have hs : W.heap.size = w.heap.size + 3 := by rw [hW]; simp
    subst hp
    refine ⟨rfl, rfl, ?_, ?_, ?_, ?_, ⟨hfW.cell c0 id, hfW.cell c1 id, (hfW.frozen (p := ⟨br, 1, none⟩) hbr id).trans f1, by simp; omega, Sl.nil _ _ _⟩, hch.new_ hfW, by simp [hs]⟩
    · rw [hW, World.cell?_alloc_past _ _ _ (by simp; omega), World.cell?_alloc_past _ _ _ (by simp), World.cell?_alloc_new]; rfl
    · have := World.cell?_alloc_new ((w.alloc (.cells #[.int .u32 key] 24)).alloc (.cells #[.iface 27 (.pointer (some ⟨br, 0, none⟩))] 107)) #[.bool true] 4 0
      rw [hW]
      simpa using this
    · have := World.frozen?_alloc_new ((w.alloc (.cells #[.int .u32 key] 24)).alloc (.cells #[.iface 27 (.pointer (some ⟨br, 0, none⟩))] 107)) #[.bool true] 4 0
      rw [hW]
      simpa using this
    · rw [hW, World.cell?_alloc_past _ _ _ (by simp)]
      simp
  have hsz : W.heap.size = w.heap.size + 3 := by rw [hW]; simp
  have hpart := part_59 (.pointer (some ⟨p.bk, 0, none⟩)) (.pointer (some ⟨p.bo, 0, none⟩)) (.pointer (some ⟨p.bf, 0, none⟩)) xs (ChI p xs) p.own (chSo p.ch p.key xs) p.B W (clos59 p ok xs (by omega)) (by omega) A n c (hr.new_ hfW) hn ⟨true, none, 0, []⟩ hI (fun j hj ho => by
    have := (hA j hj)
    rcases ho with h | h | h
    · omega
    · omega
    · exact blk_none _ h)
  rw [ebk, ebo, ebf, ek, ec] at hpart
  have hsz2 := hsz
  rw [hW] at hpart
  have HP := Lib.hid hpart
  have HW := Lib.hid hW
  have HF := Lib.hid hfW
  have HSZ := Lib.hid hsz
  clear hpart hI hch hr hX hA hW hfW hf hsz hxl
  go_enter Try.func15, Try.ntmps15
  go_wp2_with (go_at_call 58; refine HP.out.mono ?_; rintro e w2 ⟨v, rfl, hd⟩; obtain ⟨Ay, An, s, rfl, hM⟩ := hd; have M := Lib.hid hM; clear hM)
  go_ret2
  have M' : Mid (chSo ch key xs) xs (ChI p xs) p.own ⟨true, none, 0, []⟩ W w2 xs.length xs.length Ay (chTaken ch key xs).length An (chLeft ch key xs).length s := by rw [HW.out]; exact M.out
  have hst := M'.st
  have hask : s.asked = (chRun ch key xs).2 := by have := hst.ask; rw [List.take_length, ec, ek] at this; exact this
  have hrow := hst.row
  rw [hask, ebr, eX, em, ecx] at hrow
  refine ⟨_, Ay, An, s.A, s.cap, rfl, ⟨rfl, M'.sy.mono (by omega), M'.sn.mono (by omega), M'.dyn⟩, ⟨hrow.c0, hrow.c1, hrow.free, hbr, hrow.sl.mono (by omega)⟩, ?_, fun j hj => ⟨fun h => M'.dy j h (.inr (.inr hj)), fun h => M'.dn j h (.inr (.inr hj))⟩⟩
  refine (HF.out.none_ _).all M'.frm (fun j hj => ?_)
  rcases hj with h | h | h
  · exact .inr (by omega)
  · exact .inl (h.trans ebr)
  · exact (blk_none _ h).elim
end Go.Proofs.Ytaenclbbiodhfaa
