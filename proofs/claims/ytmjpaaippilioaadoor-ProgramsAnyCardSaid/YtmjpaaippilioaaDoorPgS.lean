import Derived.Test.YtmjpaaippilioaaDoorPgR
import Derived.Test.YtmjpaaippilioaaDoorMkE
import Derived.Deep.AppendLies
namespace Go.Proofs.YtmjpaaippilioaaDoor
open Go.RowKit

/-! ### the words of a text -/
/-- A number's words. -/
def dec (n : Int) : ByteArray := ⟨(Lib.itoa n).toArray⟩
theorem itoa_any (n : Int) (h0 : -9223372036854775808 ≤ n) (h1 : n ≤ 9223372036854775807) (w : World) (ht : Pow w) : Calls Tryd.prog 75 #[.int .i64 n] w fun e w' => e = .returned (.string (dec n)) ∧ Frm w w' fun _ => False := by
  refine (Tryd.strconv_Itoa n h0 h1 w ht).mono ?_
  rintro e w' ⟨he, k, os, rfl⟩
  refine ⟨he, ?_⟩
  exact ⟨rfl, rfl, rfl, by simp, fun j hj _ => Sort.heap_grow_old (w.drewN k) os hj⟩
/-- Box bl holds a list of words of the call's own. -/
def TL (w : World) (B bl : Nat) (xs : List ByteArray) : Prop :=
  ∃ A cap, w.cell? ⟨bl, 0, none⟩ = some (.slice A xs.length cap) ∧ w.frozen? ⟨bl, 0, none⟩ = false ∧ Sl w B 1 A xs.length cap (strs xs) ∧ ¬ blk A bl
theorem TL.frm {w w' : World} {B bl : Nat} {xs : List ByteArray} {S : Nat → Prop} (h : TL w B bl xs) (hf : Frm w w' S) (hb : ¬ S bl) (hS : ∀ j, B ≤ j → ¬ S j) : TL w' B bl xs := by
  obtain ⟨A, cap, h1, h2, h3, h4⟩ := h
  exact ⟨A, cap, hf.cell h1 hb, (hf.frozen (p := ⟨bl, 0, none⟩) (World.block_lt_of_cell? _ _ h1) hb).trans h2, h3.frm hf (fun j hj => hS j (h3.ge hj).1), h4⟩
theorem TL.new_ {w w' : World} {B bl : Nat} {xs : List ByteArray} (h : TL w B bl xs) (hf : Frm w w' fun _ => False) : TL w' B bl xs := h.frm hf id fun _ _ => id
def iV (l : List Int) : List Value := l.map fun x => .int .i64 x
theorem f75n : Tryd.f75.name ≠ "runtime.NumGoroutine" := by decide
theorem f75b : Tryd.f75.body ≠ none := by intro h; cases h
/-- A box after a store: it holds the longer list. -/
theorem TL.put {w w3 : World} {B bl : Nat} {xs ys : List ByteArray} {A A' : Option Addr} {cap cap' : Nat} (hB : B ≤ bl) (c0 : w.cell? ⟨bl, 0, none⟩ = some (.slice A xs.length cap)) (c0f : w.frozen? ⟨bl, 0, none⟩ = false) (hnb : ¬ blk A bl) (hS : Sl w B 1 A xs.length cap (strs xs))
    (hap : Appended w w3 B 1 A A' ys.length cap' (strs ys)) : TL (w3.setCell ⟨bl, 0, none⟩ (.slice A' ys.length cap')) B bl ys ∧ Frm w (w3.setCell ⟨bl, 0, none⟩ (.slice A' ys.length cap')) fun j => B ≤ j := by
  have e0 := hap.2.1.cell c0 hnb
  have e0f := (hap.2.1.frozen (p := ⟨bl, 0, none⟩) (World.block_lt_of_cell? _ _ c0) hnb).trans c0f
  have hlt := World.block_lt_of_cell? _ _ c0
  have nb : ¬ blk A' bl := fun h => by
    rcases hap.2.2 bl h with h1 | h1
    · exact hnb h1
    · exact absurd hlt (by simpa using h1)
  refine ⟨⟨A', cap', World.cell?_setCell_same _ _ _ e0, by rw [World.frozen?_setCell]; exact e0f, hap.1.setCell (p := ⟨bl, 0, none⟩) nb _, nb⟩, ?_⟩
  exact (hap.2.1.mono fun j _ hj => (hS.ge hj).1).setCell (p := ⟨bl, 0, none⟩) (fun _ => hB) _
set_option maxRecDepth 100000 in
theorem word_no (word : ByteArray) (N : Value) (bl : Nat) (w : World) : Calls Tryd.prog 76 #[.bool false, .string word, N, .pointer (some ⟨bl, 0, none⟩)] w fun e w' => (∃ v, e = .returned v) ∧ w = w' := by
  go_enter Tryd.func76, Tryd.ntmps76
  go_wp2_with fail
  go_end0
  exact ⟨⟨_, rfl⟩, rfl⟩
/-- Numbers in a row that was laid behind M. -/
def NsAt (w : World) (M : Nat) (An : Option Addr) (k : Nat) (ns : List Int) : Prop :=
  ns.length = k ∧ (0 < k → ∃ g off, An = some ⟨g, off, none⟩ ∧ M ≤ g ∧ ∀ j n, ns[j]? = some n → w.cell? ⟨g, off + j, none⟩ = some (.int .i64 n))
theorem NsAt.nil (w : World) (M : Nat) (An : Option Addr) : NsAt w M An 0 [] := ⟨rfl, fun h => absurd h (Nat.lt_irrefl _)⟩
theorem NsAt.one (w : World) (t : TypeId) (n : Int) : NsAt (w.alloc (.cells #[.int .i64 n] t)) w.heap.size (some ⟨w.heap.size, 0, none⟩) 1 [n] := by
  refine ⟨rfl, fun _ => ⟨w.heap.size, 0, rfl, Nat.le_refl _, fun j m hj => ?_⟩⟩
  match j, hj with
  | 0, hj =>
    injection hj with hj
    subst hj
    rw [World.cell?_alloc_new]; rfl
set_option maxRecDepth 100000 in
set_option maxHeartbeats 4000000 in
theorem word_yes (word : ByteArray) (An : Option Addr) (k cn : Nat) (ns : List Int) (B bl : Nat) (xs : List ByteArray) (w0 w : World) (hp : Pow w) (h5 : 5 < B) (h : TL w0 B bl xs) (hw : Frm w0 w fun _ => False) (hB : B ≤ w.heap.size) (hbl : B ≤ bl) (hn : NsAt w w0.heap.size An k ns) (hk : k ≤ 1) (hx : xs.length ≤ 100) (hns : ∀ n ∈ ns, -9223372036854775808 ≤ n ∧ n ≤ 9223372036854775807) :
    Calls Tryd.prog 76 #[.bool true, .string word, .slice An k cn, .pointer (some ⟨bl, 0, none⟩)] w fun e w' => (∃ v, e = .returned v) ∧ TL w' B bl (xs ++ word :: ns.map dec) ∧ Frm w w' fun j => B ≤ j := by
  obtain ⟨i9, hi, hz0, hz1, hz2⟩ := info_parts info9
  obtain ⟨M, hM⟩ : ∃ M, w0.heap.size = M := ⟨_, rfl⟩
  have hbM : bl < M := by obtain ⟨A, cap, c0, -⟩ := h; rw [← hM]; exact World.block_lt_of_cell? _ _ c0
  rw [hM] at hn
  have hAM : ∃ A cap, w.cell? ⟨bl, 0, none⟩ = some (.slice A xs.length cap) ∧ w.frozen? ⟨bl, 0, none⟩ = false ∧ Sl w B 1 A xs.length cap (strs xs) ∧ ¬ blk A bl ∧ ∀ j, blk A j → j < M := by
    obtain ⟨A, cap, c0, c0f, hS, hnb⟩ := h
    exact ⟨A, cap, hw.cell c0 id, (hw.frozen (p := ⟨bl, 0, none⟩) (World.block_lt_of_cell? _ _ c0) id).trans c0f, hS.new_ hw, hnb, fun j hj => by rw [← hM]; exact (hS.ge hj).2⟩
  obtain ⟨A, cap, c0, c0f, hS, hnb, hAm⟩ := hAM
  have HAM := Lib.hid (And.intro hbM hAm)
  clear h hw hM hbM hAm
  have S := Lib.hid hS
  have HN := Lib.hid hn
  have HP := Lib.hid hp
  have HNB := Lib.hid hnb
  have HNS := Lib.hid hns
  obtain ⟨m, hm⟩ : ∃ m, xs.length = m := ⟨_, rfl⟩
  have HM := Lib.hid hm
  have h63 : m + 1 ≤ maxLen ∧ (m + 1) * 16 ≤ 140737488355328 := by unfold maxLen; omega
  obtain ⟨r1, r2⟩ := h63
  have hblw := World.block_lt_of_cell? _ _ c0
  have hblw : bl < w.heap.size := hblw
  have hbln : bl ≠ w.heap.size := by omega
  have HC0 := Lib.hid c0
  rw [hm] at c0 S hx
  clear hS hn hp hnb hm hns
  go_enter Tryd.func76, Tryd.ntmps76
  go_wp2_with (at_builtin; refine wpList_append_sl _ rfl (.tmp 10) (.tmp 12) 84 rfl B 9 i9 _ 1 16 Tryd.underlying84 hi hz0 hz1 hz2 rfl (by decide) _ _ _ _ rfl (S.out.alloc _) _ 1 1 [.string word] rfl (Rd.fresh_at _ 9 #[.string word] rfl rfl) (by intro u hu; rw [List.mem_singleton] at hu; subst hu; rfl) r1 r2 (Nat.le_trans hB (by simp)) ?_; intro A' cap' w3 hap; replace hap := Lib.hid hap; have e0 : w3.cell? ⟨bl, 0, none⟩ = some (.slice A m cap) := hap.out.2.1.cell (((Frm.refl w fun _ => False).alloc _).cell c0 id) HNB.out; have e0f : w3.frozen? ⟨bl, 0, none⟩ = false := (hap.out.2.1.frozen (p := ⟨bl, 0, none⟩) (by simp; omega) HNB.out).trans (((((Frm.refl w fun _ => False).alloc _).frozen (p := ⟨bl, 0, none⟩) hblw id)).trans c0f))
  refine at_world' ?_
  intro W hW
  have hfa : Frm w (w.alloc (.cells #[.string word] 9)) fun _ => False := (Frm.refl _ _).alloc _
  have hT : TL W B bl (xs ++ [word]) ∧ (Frm w W fun j => B ≤ j) ∧ Frm w W fun j => j < M := by
    have hl : (xs ++ [word]).length = m + 1 := by rw [List.length_append, HM.out]; rfl
    have hap2 := hap.out
    rw [← hl] at hap2
    have hst : strs xs ++ [Value.string word] = strs (xs ++ [word]) := by rw [strs_app]; rfl
    rw [hst] at hap2
    have h3 := TL.put (xs := xs) (ys := xs ++ [word]) hbl (hfa.cell HC0.out id) ((hfa.frozen (p := ⟨bl, 0, none⟩) hblw id).trans c0f) HNB.out (by have := S.out.new_ hfa; rw [← HM.out] at this; exact this) hap2
    rw [hW, ← hl]
    refine ⟨h3.1, (hfa.none_ _).then_ (h3.2.mono fun j _ hj => hj), ?_⟩
    exact (hfa.none_ _).then_ ((hap2.2.1.mono fun j _ hj => HAM.out.2 j hj).setCell (p := ⟨bl, 0, none⟩) (fun _ => HAM.out.1) _)
  clear hW e0 e0f c0 c0f
  go_wp2_with fail
  go_loopw [8, 16] (fun _ i wr => ∃ j : Nat, i = .int .i64 j ∧ j ≤ k ∧ TL wr B bl (xs ++ word :: (ns.take j).map dec) ∧ (Frm w wr fun q => B ≤ q) ∧ (j = 0 → Frm w wr fun q => q < M)) (fun _ i _ => k - (intOf i).toNat)
  case atStart => exact ⟨0, rfl, Nat.zero_le _, by simpa using hT.1, hT.2.1, fun _ => hT.2.2⟩
  case round =>
    clear hT hap hfa
    obtain ⟨j, rfl, hj, hT, hF, hF0⟩ := hrel
    have HF := Lib.hid hF
    have HT := Lib.hid hT
    by_cases hjk : j < k
    · obtain rfl : j = 0 := by omega
      obtain rfl : k = 1 := by omega
      have hl : ns.length = 1 := HN.out.1
      obtain ⟨n0, hn0⟩ : ∃ n0, ns = [n0] := by
        match ns, hl with
        | [n0], _ => exact ⟨n0, rfl⟩
      obtain ⟨b0, b1⟩ := HNS.out n0 (by rw [hn0]; exact List.mem_cons_self)
      obtain ⟨gn, on_, rfl, hgB, hcell⟩ := HN.out.2 (by omega)
      have cn0 : wr.cell? ⟨gn, on_ + 0, none⟩ = some (.int .i64 n0) := (hF0 rfl).cell (hcell 0 _ (by rw [hn0]; rfl)) (show ¬ gn < M by omega)
      rw [Nat.add_zero] at cn0
      have hw5 : 5 < wr.heap.size := by have := HF.out.size; omega
      have HI := Lib.hid fun (v : World) (hv : Frm wr v fun _ => False) => itoa_any n0 b0 b1 v ((HP.out.frm HF.out (show ¬ B ≤ 5 by omega)).frm hv id)
      obtain ⟨A2, cap2, d0, d0f, hS2, hnb2⟩ := HT.out
      have hxl : (xs ++ word :: List.map dec (List.take 0 ns)).length = m + 1 := by rw [List.take_zero, List.map_nil, List.length_append, HM.out]; rfl
      rw [hxl] at d0 hS2
      have S2 := Lib.hid hS2
      have HNB2 := Lib.hid hnb2
      have D0 := Lib.hid d0
      have D0f := Lib.hid d0f
      have HN0 := Lib.hid hn0
      have HBW := Lib.hid (show B ≤ wr.heap.size from Nat.le_trans hB HF.out.size)
      obtain ⟨q1, q2⟩ : m + 1 + 1 ≤ maxLen ∧ (m + 1 + 1) * 16 ≤ 140737488355328 := by unfold maxLen; omega
      clear hcell hl hn0 hS2 hnb2 hxl b0 b1 hgB hF0
      go_wp2_with fail
      go_region_law (first
        | (refine step_call1 rfl 75 Tryd.func75 f75n f75b (.tmp 21) _ rfl (.int .i64 n0) rfl (HI.out _ (by (repeat (first | exact Frm.refl _ _ | apply Frm.drew | apply Frm.alloc)))) ?_; rintro e w5 ⟨rfl, hf5⟩; refine ⟨_, rfl, ?_⟩; have F5 := Lib.hid (Frm.then_ (a := wr) (S := fun _ => False) (by (repeat (first | exact Frm.refl _ _ | apply Frm.drew | apply Frm.alloc))) hf5); clear hf5; have d5 := F5.out.cell d0 id; have d6 := (F5.out.alloc (.cells #[.string (dec n0)] 9)).cell d0 id)
        | (refine step_append_sl _ rfl (.tmp 20) (.tmp 23) 84 rfl B 9 i9 _ 1 16 Tryd.underlying84 hi hz0 hz1 hz2 rfl (by decide) _ _ _ _ rfl ((S2.out.new_ F5.out).alloc _) _ 1 1 [.string (dec n0)] rfl (Rd.fresh_at _ 9 #[.string (dec n0)] rfl rfl) (by intro u hu; rw [List.mem_singleton] at hu; subst hu; rfl) q1 q2 (Nat.le_trans (Nat.le_trans HBW.out F5.out.size) (by simp)) ?_; intro A3 cap3 w6 hap; replace hap := Lib.hid hap; have e6 := hap.out.2.1.cell ((F5.out.alloc (.cells #[.string (dec n0)] 9)).cell d0 id) HNB2.out; have e6f := (hap.out.2.1.frozen (p := ⟨bl, 0, none⟩) (World.block_lt_of_cell? _ _ ((F5.out.alloc (.cells #[.string (dec n0)] 9)).cell d0 id)) HNB2.out).trans (((F5.out.alloc (.cells #[.string (dec n0)] 9)).frozen (p := ⟨bl, 0, none⟩) (World.block_lt_of_cell? _ _ d0) id).trans d0f)))
      all_goals
        have hfin : TL (w6.setCell ⟨bl, 0, none⟩ (.slice A3 (m + 1 + 1) cap3)) B bl (xs ++ word :: List.map dec (List.take 1 ns)) ∧ Frm w (w6.setCell ⟨bl, 0, none⟩ (.slice A3 (m + 1 + 1) cap3)) fun j => B ≤ j := by
          have e1 : xs ++ word :: List.map dec (List.take 0 ns) = xs ++ [word] := by simp
          have e2 : xs ++ word :: List.map dec (List.take 1 ns) = (xs ++ [word]) ++ [dec n0] := by rw [HN0.out]; simp
          have hl1 : (xs ++ [word]).length = m + 1 := by rw [List.length_append, HM.out]; rfl
          have hl2 : ((xs ++ [word]) ++ [dec n0]).length = m + 1 + 1 := by rw [List.length_append, hl1]; rfl
          have S4 := S2.out
          rw [e1] at S4
          have hap2 := hap.out
          rw [e1] at hap2
          have hst : strs (xs ++ [word]) ++ [Value.string (dec n0)] = strs ((xs ++ [word]) ++ [dec n0]) := by rw [strs_app (xs ++ [word])]; rfl
          rw [hst, ← hl2] at hap2
          have hfa := F5.out.alloc (.cells #[.string (dec n0)] 9)
          have h3 := TL.put (xs := xs ++ [word]) (ys := (xs ++ [word]) ++ [dec n0]) hbl (by rw [hl1]; exact hfa.cell D0.out id) ((hfa.frozen (p := ⟨bl, 0, none⟩) (World.block_lt_of_cell? _ _ D0.out) id).trans D0f.out) HNB2.out (by rw [hl1]; exact S4.new_ hfa) hap2
          rw [hl2] at h3
          rw [e2]
          exact ⟨h3.1, HF.out.then_ ((hfa.none_ _).then_ h3.2)⟩
        have HFIN := Lib.hid hfin
        clear hfin d5 d6 e6 e6f
        go_wp2_with fail
        go_roundw
        case rel =>
          refine ⟨_, _, _, _, _, _, _, _, _, _, _, ?_, rfl⟩
          exact ⟨1, by go_num, Nat.le_refl _, HFIN.out.1, HFIN.out.2, fun h => absurd h (by decide)⟩
        case measure => simp [intOf]
    · obtain rfl : j = k := by omega
      have hl : ns.length = j := HN.out.1
      rw [List.take_of_length_le (by omega)] at HT
      go_wp2_with fail
      go_end0
      exact ⟨⟨_, rfl⟩, HT.out, HF.out⟩
end Go.Proofs.YtmjpaaippilioaaDoor
