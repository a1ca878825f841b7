import Derived.Test.YtajcijocjbakbaaTbI
namespace Go.Proofs.Ytajcijocjbakbaa
open Go.RowKit

theorem bkc_setT (l : List Bk) (i : Nat) (k : Bk) (a f : Int) (hk : l[i]? = some k) : ((bkc l).set (i * 3) (.int .u64 a)).set (i * 3 + 1) (.int .u64 f) = bkc (l.set i ⟨a, f, k.hd, k.q⟩) := by
  induction l generalizing i with
  | nil => cases hk
  | cons b r ih =>
    cases i with
    | zero =>
      injection hk with hk
      subst hk
      rfl
    | succ i =>
      have h1 := ih i (by simpa using hk)
      show ((b.V ++ bkc r).set _ _).set _ _ = b.V ++ bkc (r.set i _)
      rw [← h1, List.set_append_right _ _ (by show 3 ≤ _; omega), List.set_append_right _ _ (by show 3 ≤ _; omega)]
      have e1 : (i + 1) * 3 - b.V.length = i * 3 := by rw [Bk.len]; omega
      have e2 : (i + 1) * 3 + 1 - b.V.length = i * 3 + 1 := by rw [Bk.len]; omega
      rw [e1, e2]
set_option maxRecDepth 100000 in
theorem putTimer_w (B s b : Nat) (ts : List Tb) (t : Tb) (k : Bk) (d : Int) (i : Nat) (a f : Int) (w : World) (h : TSet w B s b ts) (ht : tget ts d = some t) (hk : t.bs[i]? = some k) :
    Calls Try.prog 24 #[.pointer (some ⟨s, 0, none⟩), plV d i, tmV a f] w fun e w' => ∃ w3, e = .returned (.bool true) ∧ (Frm w w3 fun _ => False) ∧ Frm ((w3.setCell ⟨t.g, i * 3, none⟩ (.int .u64 a)).setCell ⟨t.g, i * 3 + 1, none⟩ (.int .u64 f)) w' fun _ => False := by
  have hi : i < t.bs.length := (List.getElem?_eq_some_iff.1 hk).1
  obtain ⟨hm, _⟩ := tget_some ht
  obtain ⟨c0, c1, -, fz⟩ := h.bk hm hk
  have HAT := Lib.hid (fun V (hf : Frm w V fun _ => False) => at_in B s b ts t d i V (h.new_ hf) ht hi)
  obtain ⟨g, hg⟩ : ∃ g, t.g = g := ⟨_, rfl⟩
  have f0 := fz (i * 3)
  have f1 := fz (i * 3 + 1)
  rw [hg] at c0 c1 f0 f1 HAT
  have hlt := World.block_lt_of_cell? w _ c0
  simp only at hlt
  have HC := Lib.hid (And.intro (And.intro c0 c1) (And.intro f0 f1))
  rw [hg]
  clear h ht hk hi hm c0 c1 f0 f1 fz hg
  go_enter Try.func24, Try.ntmps24
  go_wp2_with fail
  refine (HAT.out _ (((Frm.refl _ _).alloc _).alloc _)).mono ?_
  rintro e w2 ⟨rfl, hf⟩
  have q0 : ((w.alloc (.cells #[.int .i64 d, .int .i64 i] 37)).alloc (.cells #[.int .u64 a, .int .u64 f] 33)).cell? ⟨w.heap.size + 1, 0, none⟩ = some (.int .u64 a) := by simp
  have q1 : ((w.alloc (.cells #[.int .i64 d, .int .i64 i] 37)).alloc (.cells #[.int .u64 a, .int .u64 f] 33)).cell? ⟨w.heap.size + 1, 1, none⟩ = some (.int .u64 f) := by simp
  have r0 := hf.cell q0 id
  have r1 := hf.cell q1 id
  have F := ((((Frm.refl w fun _ => False).alloc (.cells #[.int .i64 d, .int .i64 i] 37)).alloc (.cells #[.int .u64 a, .int .u64 f] 33)).then_ hf)
  have c0 := F.cell HC.out.1.1 id
  have c1 := F.cell HC.out.1.2 id
  have f0 := (F.frozen (p := ⟨g, i * 3, none⟩) hlt id).trans HC.out.2.1
  have f1 := (F.frozen (p := ⟨g, i * 3 + 1, none⟩) hlt id).trans HC.out.2.2
  have hne : g ≠ w.heap.size + 1 := by omega
  have HF := Lib.hid F
  clear hf q0 q1 F
  go_wp2_with fail
  go_region
  go_wp2_with fail
  go_ret
  exact ⟨w2.drew, rfl, HF.out.drew, Frm.refl _ _⟩
set_option maxRecDepth 100000 in
theorem putTimer_in (B s b : Nat) (ts : List Tb) (t : Tb) (k : Bk) (d : Int) (i : Nat) (a f : Int) (w : World) (h : TSet w B s b ts) (ht : tget ts d = some t) (hk : t.bs[i]? = some k) :
    Calls Try.prog 24 #[.pointer (some ⟨s, 0, none⟩), plV d i, tmV a f] w fun e w' => e = .returned (.bool true) ∧ TSet w' B s b (tput ts d i ⟨a, f, k.hd, k.q⟩) ∧ Frm w w' fun j => j = t.g := by
  refine (putTimer_w B s b ts t k d i a f w h ht hk).mono ?_
  rintro e w' ⟨w3, rfl, hf3, hf4⟩
  obtain ⟨hm, _⟩ := tget_some ht
  have h3 := h.new_ hf3
  obtain ⟨hrow, _⟩ := h3.tb t hm
  obtain ⟨hq, hqb⟩ := h3.qs t hm k (List.mem_of_getElem? hk)
  have hi : i < t.bs.length := (List.getElem?_eq_some_iff.1 hk).1
  have s1 := hrow.set (j := i * 3) (by rw [hrow.len]; omega) (.int .u64 a)
  have s2 := s1.set (j := i * 3 + 1) (by rw [List.length_set, hrow.len]; omega) (.int .u64 f)
  rw [bkc_setT t.bs i k a f hk, Nat.zero_add, Nat.zero_add] at s2
  have hset : Frm w3 ((w3.setCell ⟨t.g, i * 3, none⟩ (.int .u64 a)).setCell ⟨t.g, i * 3 + 1, none⟩ (.int .u64 f)) (fun j => j = t.g) :=
    ((Frm.refl w3 (fun j => j = t.g)).setCell (p := ⟨t.g, i * 3, none⟩) (fun _ => rfl) _).setCell (p := ⟨t.g, i * 3 + 1, none⟩) (fun _ => rfl) _
  have hall : Frm w3 w' (fun j => j = t.g) := hset.trans hf4 (fun _ _ h => h.elim)
  refine ⟨rfl, h3.put ht ⟨a, f, k.hd, k.q⟩ hall (s2.new_ hf4) (hq.frm hall (fun j hj e => (hqb j hj).2.2 t hm e)) hqb (h.ok t hm k (List.mem_of_getElem? hk)), (hf3.none_ _).then_ hall⟩
end Go.Proofs.Ytajcijocjbakbaa
