import Derived.Test.YtmjpaaippilioaaDoorPgR
namespace Go.Proofs.YtmjpaaippilioaaDoor
open Go.RowKit
attribute [local go_sem] Oper.semAt_some

/-! ### Parse of no bytes -/
set_option maxRecDepth 100000 in
set_option maxHeartbeats 2000000 in
theorem chunk_seq0 (b1 b2 c : Nat) (A : Option Addr) (T : Nat → Prop) (w : World) (h1 : w.cell? ⟨b1, 0, none⟩ = some (.slice A 0 c)) (h2 : w.cell? ⟨b2, 0, none⟩ = some (.int .i64 4)) :
    SeqC Tryd.prog 85 #[.pointer (some ⟨b1, 0, none⟩), .pointer (some ⟨b2, 0, none⟩)] (ckArgs 0 0 0) ([] : List Nat) (fun _ => False) T w := by
  intro lp J Jx W hW hsz hJ hJx hY h0
  have hc1 := hW.cell h1 id
  have hc2 := hW.cell h2 id
  refine callsIn_of_wp Tryd.func85 rfl trivial ?_ rfl
  simp only [Tryd.ntmps85, List.size_toArray, List.length_cons, List.length_nil, Nat.reduceAdd, Nat.reduceSub, Array.replicate_succ, Array.replicate_zero, List.push_toArray, List.append_toArray, List.nil_append, List.cons_append]
  gi_wp2_with fail
  gi_loopw [4] (fun i wr => i = .int .i64 0 ∧ J 0 wr ∧ wr.cell? ⟨b1, 0, none⟩ = some (.slice A 0 c) ∧ wr.cell? ⟨b2, 0, none⟩ = some (.int .i64 4)) (fun _ _ => 0)
  case atStart => exact ⟨rfl, h0, hc1, hc2⟩
  case round =>
    clear hc1 hc2
    obtain ⟨rfl, hJk, hc1, hc2⟩ := hrel
    gi_wp2_with fail
    go_end0
    exact ⟨⟨_, rfl⟩, .inl hJk⟩
set_option maxRecDepth 100000 in
set_option maxHeartbeats 4000000 in
theorem parse_nil (A : Option Addr) (c : Nat) (w : World) : Calls Tryd.prog 39 #[.slice A 0 c] w fun e w' => e = .returned (.slice none 0 0) ∧ Frm w w' fun _ => False := by
  refine (callsIn_wide (n := 0)).1 ?_
  refine callsIn_of_wp_marks Tryd.func39 rfl trivial ?_ rfl
  simp only [Tryd.ntmps39, List.size_toArray, List.length_cons, List.length_nil, Nat.reduceAdd, Nat.reduceSub, Array.replicate_succ, Array.replicate_zero, List.push_toArray, List.append_toArray, List.nil_append, List.cons_append]
  refine wpIn_wide.2 ?_
  go_wp2_with (go_at_call 68; refine (chunk_any _ _ _ _).mono ?_; rintro e w' ⟨rfl, rfl⟩)
  refine at_world' ?_
  intro W hW
  have hsW : W.heap.size = w.heap.size + 3 := by rw [hW]; simp
  have hFW : Frm w W fun _ => False := by rw [hW]; exact (((Frm.refl _ _).alloc _).alloc _).alloc _
  have o0 : W.cell? ⟨w.heap.size, 0, none⟩ = some (.slice none 0 0) := by rw [hW]; exact (((Frm.refl _ fun _ => False).alloc _).alloc _).cell (by rw [World.cell?_alloc_new]; rfl) id
  have b1 : W.cell? ⟨w.heap.size + 1, 0, none⟩ = some (.slice A 0 c) := by
    rw [hW]
    refine ((Frm.refl _ fun _ => False).alloc _).cell ?_ id
    have e : w.heap.size + 1 = (w.alloc (.cells #[.slice none 0 0] 39)).heap.size := by simp
    rw [e, World.cell?_alloc_new]; rfl
  have b2 : W.cell? ⟨w.heap.size + 2, 0, none⟩ = some (.int .i64 4) := by
    rw [hW]
    have e : w.heap.size + 2 = ((w.alloc (.cells #[.slice none 0 0] 39)).alloc (.cells #[.slice A 0 c] 38)).heap.size := by simp
    rw [e, World.cell?_alloc_new]; rfl
  have hseq := chunk_seq0 (w.heap.size + 1) (w.heap.size + 2) c A (fun j => j = w.heap.size) W b1 b2
  clear hW b1 b2
  refine wpIn_wide.1 (wpIn_range (gf := 85) (lb := #[.pointer (some ⟨w.heap.size + 1, 0, none⟩), .pointer (some ⟨w.heap.size + 2, 0, none⟩)]) rfl (enters_of Tryd.func85 (by kernel_rfl) rfl) hseq (fun j h => h.elim) (fun j h => by have h : j = w.heap.size := h; omega) (fun _ => rfl) (fun _ X => X.cell? ⟨w.heap.size, 0, none⟩ = some (.slice none 0 0) ∧ Frm w X fun _ => False) (fun _ _ _ => False)
    (fun k X Y h hf => ⟨hf.cell h.1 (by simp; omega), h.2.trans hf (fun j hj h => by simp at h; omega)⟩) (fun _ _ _ _ h _ => h.elim) ⟨o0, hFW⟩ ?round ?done ?stop)
  case round =>
    intro k hkl
    exact absurd hkl (by simp)
  case done =>
    intro V hI hD
    obtain ⟨c0, hF⟩ := hI
    have F := Lib.hid hF
    have HDD := Lib.hid hD
    have HSW := Lib.hid hsW
    clear hseq o0 hF hD hsW hFW
    go_wp2_with (go_at_call 70; refine (clip70 _ _ _ (Nat.le_refl _) _).mono ?_; rintro e w' ⟨rfl, rfl⟩)
    have hput := putObj_frm V W.heap.size (.deferred none)
    refine ⟨by simp, .inl ⟨_, _, rfl, run_takeDeferred HDD.out, ?_⟩⟩
    exact ⟨.slice none 0 0, by simp [results, Tryd.results39, go_sem], rfl, F.out.trans hput (fun j hj h => by have := HSW.out; omega)⟩
  case stop =>
    intro c k V hk h
    exact h.elim
/-- Parse of any bytes. -/
theorem parse_all (A : Option Addr) (n c : Nat) (zs : List Nat) (w : World) (h1 : T1 w) (hr : Rd w w.heap.size 1 A n (bz zs)) (hz : ∀ z ∈ zs, z ≤ 255) (hn : (n : Int) ≤ 3000) (hnc : n ≤ c) (hc : c ≤ maxLen) :
    Calls Tryd.prog 39 #[.slice A n c] w fun e w' => ∃ A, e = .returned (.slice A (zs.length / 4) (zs.length / 4)) ∧ Sl w' w.heap.size 7 A (zs.length / 4) (zs.length / 4) (opsV (parseL zs)) ∧ Frm w w' fun _ => False := by
  have hlen : n = zs.length := by have := hr.1; simp [bz] at this; omega
  by_cases h0 : n = 0
  · subst h0
    have hz0 : zs = [] := List.eq_nil_of_length_eq_zero hlen.symm
    subst hz0
    exact (parse_nil A c w).mono fun e w' ⟨he, hf⟩ => ⟨none, he, Sl.nil _ _ _, hf⟩
  · obtain ⟨g, off, rfl, _, _⟩ := hr.2 (by rw [hr.1]; omega)
    exact parse_any g off n c zs w h1 hr hz hn hnc hc
end Go.Proofs.YtmjpaaippilioaaDoor
