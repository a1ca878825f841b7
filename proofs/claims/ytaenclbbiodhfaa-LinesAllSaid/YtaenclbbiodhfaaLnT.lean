import Derived.Test.YtaenclbbiodhfaaLnS
namespace Go.Proofs.Ytaenclbbiodhfaa
open Go.RowKit

def iz (l : List Nat) : List Value := l.map fun c => .int .i64 ((c % 4 : Nat) : Int)
theorem info3' : (Try.prog.info? 3).map (fun i => (i.zero, i.size, i.bytes)) = some (some (.int .i64 0), 1, 8) := by kernel_rfl
theorem iz_snoc (l : List Nat) (c : Nat) : iz (l ++ [c]) = iz l ++ [.int .i64 ((c % 4 : Nat) : Int)] := by simp [iz]
theorem iz_cells {w : World} {B m : Nat} {A : Option Addr} {l : List Nat} (h : Rd w B 1 A m (iz l)) : m = l.length ∧ (0 < m → ∃ g off, A = some ⟨g, off, none⟩ ∧ g < B ∧ ∀ i (hi : i < l.length), w.cell? ⟨g, off + i, none⟩ = some (.int .i64 ((l[i] % 4 : Nat) : Int))) := by
  have hm : m = l.length := by have := h.1; simp [iz] at this; omega
  refine ⟨hm, fun hp => ?_⟩
  obtain ⟨g, off, e, hg, hc⟩ := h.2 (by simp [iz]; omega)
  exact ⟨g, off, e, hg, fun i hi => hc i _ (by simp [iz, hi])⟩
set_option maxRecDepth 100000 in
set_option maxHeartbeats 2000000 in
theorem ints_any (X : Option Addr) (m cx br : Nat) (ch : List Nat) (w : World) (hch : Rd w w.heap.size 1 X m (bz ch)) (hm : (m : Int) ≤ 1000) (hu : ∀ c ∈ ch, c ≤ 255) (c0 : w.cell? ⟨br, 0, none⟩ = some (.slice X m cx)) :
    Calls Try.prog 32 #[.pointer (some ⟨br, 0, none⟩)] w fun e w' => ∃ Ai ci, e = .returned (.slice Ai m ci) ∧ Sl w' w.heap.size 1 Ai m ci (iz ch) ∧ Frm w w' fun _ => False := by
  obtain ⟨i3, hi, hz0, hz1, hz2⟩ := info_parts info3'
  obtain ⟨hl, hcells⟩ := bz_cells hch
  have HCE := Lib.hid hcells
  have HL := Lib.hid hl
  have HU := Lib.hid hu
  have C0 := Lib.hid c0
  clear hch hl hcells hu c0
  go_enter Try.func32, Try.ntmps32
  go_wp2_with fail
  go_loopw [3, 4] (fun o i wr => ∃ (k : Nat) (Am : Option Addr) (cm : Nat), i = .int .i64 k ∧ k ≤ m ∧ o = .slice Am k cm ∧ Sl wr w.heap.size 1 Am k cm (iz (ch.take k)) ∧ Frm w wr fun _ => False) (fun _ i _ => m - (intOf i).toNat)
  case atStart => exact ⟨0, none, 0, rfl, Nat.zero_le _, rfl, Sl.nil _ _ _, Frm.refl _ _⟩
  case round =>
    obtain ⟨k, Am, cm, rfl, hk, rfl, hS, hF⟩ := hrel
    have S := Lib.hid hS
    have F := Lib.hid hF
    clear hS hF
    have c0 := F.out.cell C0.out id
    by_cases hlt : k < m
    · obtain ⟨g, off, rfl, hg, hcell⟩ := HCE.out (by omega)
      have hkl : k < ch.length := by have := HL.out; omega
      obtain ⟨x, hx⟩ : ∃ x, x = ch[k] := ⟨_, rfl⟩
      have q0 := hcell k hkl
      rw [show ch.getD k 0 = ch[k] from by rw [List.getD_eq_getElem?_getD, List.getElem?_eq_getElem hkl]; rfl] at q0
      have hx255 := HU.out ch[k] (List.getElem_mem hkl)
      rw [← hx] at q0 hx255
      replace q0 := F.out.cell q0 id
      have i0 : (0 : Int) ≤ (k : Int) := by omega
      have i1 : (k : Int) < (m : Int) := by omega
      have x0 : (0 : Int) ≤ (x : Int) := by omega
      have x1 : (x : Int) ≤ 255 := by omega
      have y0 : (x : Int).tmod 4 = ((x % 4 : Nat) : Int) := by rw [Int.tmod_eq_emod_of_nonneg (by omega)]; rfl
      have y1 : (0 : Int) ≤ ((x % 4 : Nat) : Int) := by omega
      have y2 : ((x % 4 : Nat) : Int) ≤ 3 := by omega
      have HX := Lib.hid hx
      have bb : k + 1 ≤ maxLen ∧ (k + 1) * 8 ≤ 140737488355328 := by unfold maxLen; omega
      obtain ⟨r1, r2⟩ := bb
      clear hcell hx
      go_wp2_with (at_builtin; refine wpList_append_sl _ rfl _ _ 61 rfl w.heap.size 3 i3 _ 1 8 Try.underlying61 hi hz0 hz1 hz2 rfl (by decide) _ _ _ _ rfl (S.out.alloc _) _ 1 1 [.int .i64 ((x % 4 : Nat) : Int)] rfl (Rd.fresh_at _ 3 #[.int .i64 ((x % 4 : Nat) : Int)] rfl rfl) (by intro u hu; rw [List.mem_singleton] at hu; subst hu; rfl) r1 r2 (Nat.le_trans F.out.size (by simp)) ?_; intro A' cap' w3 hap; replace hap := Lib.hid hap)
      go_roundw
      case rel => exact ⟨k + 1, A', cap', by go_num, by omega, rfl, by have := hap.out.1; rw [List.take_succ_eq_append_getElem hkl, iz_snoc, ← HX.out]; exact this, (F.out.then_ ((Frm.refl _ _).alloc _)).fresh hap.out.2.1 (fun j hj => (S.out.ge hj).1)⟩
      case measure => simp [intOf]; omega
    · obtain rfl : k = m := by omega
      go_wp2_with fail
      go_ret
      exact ⟨Am, cm, rfl, by have := S.out; rw [List.take_of_length_le (by have := HL.out; omega)] at this; exact this, F.out⟩
end Go.Proofs.Ytaenclbbiodhfaa
