import Derived.Test.YtaenclbbiodhfaaScC
namespace Go.Proofs.Ytaenclbbiodhfaa
open Go.RowKit

def Cm.R (x : Cm) : List Value := [.int .i64 (x.k : Nat), .int .u64 (x.n : Nat)]
theorem Cm.oneR (x : Cm) : ∀ u ∈ x.R, u.oneCell' = true := by intro u hu; simp [Cm.R] at hu; rcases hu with rfl | rfl <;> rfl
/-- Commands as the document has them, as cells. -/
def rms (l : List Cm) : List Value := l.flatMap Cm.R
theorem rms_snoc (l : List Cm) (x : Cm) : rms (l ++ [x]) = rms l ++ x.R := by simp [rms]
theorem info131 : (Try.prog.info? 131).map (fun i => (i.zero, i.size, i.bytes)) = some (some (.agg #[.int .i64 0, .int .u64 0]), 2, 16) := by kernel_rfl
/-- What the document's Parse leaves. -/
def RParsePost (xs : List Cm) (w : World) (e : Ending) (w' : World) : Prop :=
  ∃ Ao co, e = .returned (.slice Ao xs.length co) ∧ Sl w' w.heap.size 2 Ao xs.length co (rms xs) ∧ Frm w w' fun _ => False
theorem drop_cons {l : List Nat} {k : Nat} (h : k < l.length) : l.drop k = l[k] :: l.drop (k + 1) := List.drop_eq_getElem_cons h
set_option maxRecDepth 100000 in
set_option maxHeartbeats 2000000 in
theorem rparse_le (A : Option Addr) (n c : Nat) (lq : List Nat) (w : World) (hn : (n : Int) ≤ 65536) (hr : Rd w w.heap.size 1 A n (by_ lq)) (hnc : n ≤ c) (hu : ∀ m ∈ lq, m ≤ 255) :
    Calls Try.prog 57 #[.slice A n c] w (RParsePost (cmds lq) w) := by
  obtain ⟨hlen, hcells⟩ := Rd.by_ hr
  obtain ⟨i131, hi, hz0, hz1, hz2⟩ := info_parts info131
  have HL := Lib.hid hlen
  have HCE := Lib.hid hcells
  have HU := Lib.hid hu
  have n0 : (0 : Int) ≤ (n : Int) := by omega
  have nc : (n : Int) ≤ (c : Int) := by omega
  clear hlen hcells hu hr
  go_enter Try.func57, Try.ntmps57
  go_wp2_with fail
  go_loopw [3, 4] (fun o i wr => ∃ (k q : Nat) (Ao : Option Addr) (co : Nat) (don : List Cm), i = .int .i64 k ∧ k ≤ n + 1 ∧ o = .slice Ao q co ∧ don.length = q ∧ q ≤ k ∧ don ++ cmds (lq.drop k) = cmds lq ∧ Sl wr w.heap.size 2 Ao q co (rms don) ∧ Frm w wr fun _ => False) (fun _ i _ => n + 1 - (intOf i).toNat)
  case atStart => exact ⟨0, 0, none, 0, [], rfl, Nat.zero_le _, rfl, rfl, Nat.le_refl _, rfl, Sl.nil _ _ _, Frm.refl _ _⟩
  case round =>
    obtain ⟨k, q, Ao, co, don, rfl, hk, rfl, hdl, hqk, hdon, hS, hF⟩ := hrel
    have S := Lib.hid hS
    have F := Lib.hid hF
    have HDL := Lib.hid hdl
    have HDN := Lib.hid hdon
    clear hS hF hdl hdon
    by_cases hlt : k < n
    · have hkl : k < lq.length := by have := HL.out; omega
      obtain ⟨g, off, rfl, _, hcell⟩ := HCE.out (by omega)
      have q0 := F.out.cell (hcell k hkl) id
      have hb := HU.out _ (List.getElem_mem hkl)
      have hdrop := drop_cons hkl
      obtain ⟨b, hbb⟩ : ∃ b, lq[k] = b := ⟨_, rfl⟩
      rw [hbb] at q0 hb hdrop
      have HDR := Lib.hid hdrop
      have b0 : (0 : Int) ≤ (b : Int) := by omega
      have b1 : (b : Int) ≤ 255 := by omega
      have i0 : (0 : Int) ≤ (k : Int) := by omega
      have i1 : (k : Int) < (n : Int) := by omega
      have i2 : (k : Int) ≤ 65536 := by omega
      have hdn := HDN.out
      rw [hdrop, cmds_cons] at hdn
      obtain ⟨h63, hby⟩ : q + 1 ≤ maxLen ∧ (q + 1) * 16 ≤ 140737488355328 := by unfold maxLen; omega
      by_cases c1 : (b : Int) ≤ 191
      · have HC := cmd1_pick (lq.drop (k + 1)) (show b < 192 by omega)
        rw [HC] at hdn
        have HD2 := Lib.hid hdn
        clear hdn HC hb hbb hdrop hcell
        go_wp2_with (first
          | (at_builtin; refine wpList_append_sl _ rfl (.tmp 49) (.tmp 52) 103 rfl w.heap.size 131 i131 _ 2 16 Try.underlying103 hi hz0 hz1 hz2 rfl (by decide) _ _ _ _ rfl (S.out.alloc _) _ 1 1 [.int .i64 0, .int .u64 (b : Int)] rfl (fresh_cm _ 131 #[.int .i64 0, .int .u64 (b : Int)] rfl rfl) (by intro u hu; simp at hu; rcases hu with rfl | rfl <;> rfl) h63 hby (Nat.le_trans F.out.size (by simp <;> omega)) ?_; intro A' cap' w3 hap; replace hap := Lib.hid hap))
        go_roundw
        case rel =>
          obtain ⟨hs3, hf3, hA3⟩ := hap.out
          refine ⟨k + 1, q + 1, A', cap', don ++ [⟨0, b⟩], by go_num, by omega, rfl, by rw [List.length_append, HDL.out]; rfl, by omega, by rw [← HD2.out, List.append_assoc]; rfl, ?_, ?_⟩
          · rw [rms_snoc]; exact hs3
          · exact (F.out.then_ ((Frm.refl _ _).alloc _)).fresh hf3 (fun j hj => (S.out.ge hj).1)
        case measure => simp [intOf]; omega
      by_cases c2 : (b : Int) ≤ 223
      · have HC := cmd1_tick (lq.drop (k + 1)) (show ¬ b < 192 by omega) (show b < 224 by omega)
        rw [HC] at hdn
        have hb2 : (b : Int) - 191 = ((b - 191 : Nat) : Int) := by omega
        obtain ⟨x, hx⟩ : ∃ x, b - 191 = x := ⟨_, rfl⟩
        rw [hx] at hb2 hdn
        have hb3 : (191 : Int) ≤ (b : Int) := by omega
        have HD2 := Lib.hid hdn
        clear hdn HC hb hbb hdrop hx hcell
        go_wp2_with (first
          | (at_builtin; refine wpList_append_sl _ rfl (.tmp 57) (.tmp 61) 103 rfl w.heap.size 131 i131 _ 2 16 Try.underlying103 hi hz0 hz1 hz2 rfl (by decide) _ _ _ _ rfl (S.out.alloc _) _ 1 1 [.int .i64 1, .int .u64 (x : Int)] rfl (fresh_cm _ 131 #[.int .i64 1, .int .u64 (x : Int)] rfl rfl) (by intro u hu; simp at hu; rcases hu with rfl | rfl <;> rfl) h63 hby (Nat.le_trans F.out.size (by simp <;> omega)) ?_; intro A' cap' w3 hap; replace hap := Lib.hid hap))
        go_roundw
        case rel =>
          obtain ⟨hs3, hf3, hA3⟩ := hap.out
          refine ⟨k + 1, q + 1, A', cap', don ++ [⟨1, x⟩], by go_num, by omega, rfl, by rw [List.length_append, HDL.out]; rfl, by omega, by rw [← HD2.out, List.append_assoc]; rfl, ?_, ?_⟩
          · rw [rms_snoc]; exact hs3
          · exact (F.out.then_ ((Frm.refl _ _).alloc _)).fresh hf3 (fun j hj => (S.out.ge hj).1)
        case measure => simp [intOf]; omega
      have hb3 : (224 : Int) ≤ (b : Int) := by omega
      have hb4 : 256 * ((b : Int) - 224) = ((256 * (b - 224) : Nat) : Int) := by omega
      obtain ⟨x, hx⟩ : ∃ x, 256 * (b - 224) = x := ⟨_, rfl⟩
      rw [hx] at hb4
      have x0 : (0 : Int) ≤ (x : Int) := by omega
      have x1 : (x : Int) ≤ 8000 := by omega
      by_cases hlt2 : k + 1 < n
      · have hkl2 : k + 1 < lq.length := by have := HL.out; omega
        have q1 := F.out.cell (hcell (k + 1) hkl2) id
        have hy := HU.out _ (List.getElem_mem hkl2)
        have hdrop2 := drop_cons hkl2
        obtain ⟨y, hyy⟩ : ∃ y, lq[k + 1] = y := ⟨_, rfl⟩
        rw [hyy] at q1 hy hdrop2
        have y0 : (0 : Int) ≤ (y : Int) := by omega
        have y1 : (y : Int) ≤ 255 := by omega
        have HC := cmd1_draw y (lq.drop (k + 1 + 1)) (show ¬ b < 224 by omega)
        rw [hdrop2, HC, hx] at hdn
        have HD2 := Lib.hid hdn
        have i3 : (k : Int) + 1 < (n : Int) := by omega
        have i4 : (0 : Int) ≤ (k : Int) + 1 := by omega
        have q2 := ((Frm.refl wr fun _ => False).alloc (.cells #[.int .i64 2, .int .u64 (x : Int)] 131)).cell q1 id
        clear hdn HC hb hbb hdrop hcell hx hyy hy hdrop2
        go_wp2_with fail
        go_region
        all_goals
          go_wp2_with (first
            | (at_builtin; refine wpList_append_sl _ rfl (.tmp 42) (.tmp 44) 103 rfl w.heap.size 131 i131 _ 2 16 Try.underlying103 hi hz0 hz1 hz2 rfl (by decide) _ _ _ _ rfl ((S.out.alloc _).alloc _).drew _ 1 1 [.int .i64 2, .int .u64 ((x : Int) + (y : Int))] rfl (Rd.drew (fresh_cm _ 131 #[.int .i64 2, .int .u64 ((x : Int) + (y : Int))] rfl (by simp))) (by intro u hu; simp at hu; rcases hu with rfl | rfl <;> rfl) h63 hby (Nat.le_trans F.out.size (by simp <;> omega)) ?_; intro A' cap' w3 hap; replace hap := Lib.hid hap))
          go_roundw
          case rel =>
            obtain ⟨hs3, hf3, hA3⟩ := hap.out
            refine ⟨k + 1 + 1, q + 1, A', cap', don ++ [⟨2, x + y⟩], by go_num, by omega, rfl, by rw [List.length_append, HDL.out]; rfl, by omega, by rw [← HD2.out, List.append_assoc]; rfl, ?_, ?_⟩
            · rw [rms_snoc]; exact hs3
            · exact (F.out.then_ (((Frm.refl _ _).alloc _).alloc _).drew).fresh hf3 (fun j hj => (S.out.ge hj).1)
          case measure => simp [intOf]; omega
      · have hend : lq.drop (k + 1) = [] := by rw [List.drop_eq_nil_iff]; have := HL.out; omega
        have HC := cmd1_end (show ¬ b < 224 by omega)
        rw [hend, HC, hx] at hdn
        have HD2 := Lib.hid hdn
        have i3 : ¬ (k : Int) + 1 < (n : Int) := by omega
        have hdr2 : lq.drop (k + 1 + 1) = [] := by rw [List.drop_eq_nil_iff]; have := HL.out; omega
        have HDR2 := Lib.hid hdr2
        clear hdn HC hb hbb hdrop hcell hx hend hdr2
        go_wp2_with (first
          | (at_builtin; refine wpList_append_sl _ rfl (.tmp 42) (.tmp 44) 103 rfl w.heap.size 131 i131 _ 2 16 Try.underlying103 hi hz0 hz1 hz2 rfl (by decide) _ _ _ _ rfl ((S.out.alloc _).alloc _) _ 1 1 [.int .i64 2, .int .u64 (x : Int)] rfl (fresh_cm _ 131 #[.int .i64 2, .int .u64 (x : Int)] rfl (by simp)) (by intro u hu; simp at hu; rcases hu with rfl | rfl <;> rfl) h63 hby (Nat.le_trans F.out.size (by simp <;> omega)) ?_; intro A' cap' w3 hap; replace hap := Lib.hid hap))
        go_roundw
        case rel =>
          obtain ⟨hs3, hf3, hA3⟩ := hap.out
          refine ⟨k + 1 + 1, q + 1, A', cap', don ++ [⟨2, x⟩], by go_num, by omega, rfl, by rw [List.length_append, HDL.out]; rfl, by omega, by rw [← HD2.out, HDR2.out, List.append_assoc]; rfl, ?_, ?_⟩
          · rw [rms_snoc]; exact hs3
          · exact (F.out.then_ (((Frm.refl _ _).alloc _).alloc _)).fresh hf3 (fun j hj => (S.out.ge hj).1)
        case measure => simp [intOf]; omega
    · have hend : lq.drop k = [] := by rw [List.drop_eq_nil_iff]; have := HL.out; omega
      have i1 : ¬ (k : Int) < (n : Int) := by omega
      go_wp2_with fail
      go_ret
      have hd := HDN.out
      rw [hend, cmds_nil, List.append_nil] at hd
      subst hd
      refine ⟨Ao, co, by rw [HDL.out]; rfl, ?_, F.out⟩
      rw [HDL.out]
      exact S.out
set_option maxRecDepth 100000 in
set_option maxHeartbeats 2000000 in
theorem rparse_gt (A : Option Addr) (n c : Nat) (lq : List Nat) (w : World) (hn : 65536 < (n : Int)) (hr : Rd w w.heap.size 1 A 65536 (by_ lq)) (hnc : 65536 ≤ c) (hu : ∀ m ∈ lq, m ≤ 255) :
    Calls Try.prog 57 #[.slice A n c] w (RParsePost (cmds lq) w) := by
  obtain ⟨hlen, hcells⟩ := Rd.by_ hr
  obtain ⟨i131, hi, hz0, hz1, hz2⟩ := info_parts info131
  have HL := Lib.hid hlen
  have HCE := Lib.hid hcells
  have HU := Lib.hid hu
  have n0 : (0 : Int) ≤ (n : Int) := by omega
  have nc : (65536 : Int) ≤ (c : Int) := by omega
  clear hlen hcells hu hr
  go_enter Try.func57, Try.ntmps57
  go_wp2_with fail
  go_loopw [3, 4] (fun o i wr => ∃ (k q : Nat) (Ao : Option Addr) (co : Nat) (don : List Cm), i = .int .i64 k ∧ k ≤ 65536 + 1 ∧ o = .slice Ao q co ∧ don.length = q ∧ q ≤ k ∧ don ++ cmds (lq.drop k) = cmds lq ∧ Sl wr w.heap.size 2 Ao q co (rms don) ∧ Frm w wr fun _ => False) (fun _ i _ => 65536 + 1 - (intOf i).toNat)
  case atStart => exact ⟨0, 0, none, 0, [], rfl, Nat.zero_le _, rfl, rfl, Nat.le_refl _, rfl, Sl.nil _ _ _, Frm.refl _ _⟩
  case round =>
    obtain ⟨k, q, Ao, co, don, rfl, hk, rfl, hdl, hqk, hdon, hS, hF⟩ := hrel
    have S := Lib.hid hS
    have F := Lib.hid hF
    have HDL := Lib.hid hdl
    have HDN := Lib.hid hdon
    clear hS hF hdl hdon
    by_cases hlt : k < 65536
    · have hkl : k < lq.length := by have := HL.out; omega
      obtain ⟨g, off, rfl, _, hcell⟩ := HCE.out (by omega)
      have q0 := F.out.cell (hcell k hkl) id
      have hb := HU.out _ (List.getElem_mem hkl)
      have hdrop := drop_cons hkl
      obtain ⟨b, hbb⟩ : ∃ b, lq[k] = b := ⟨_, rfl⟩
      rw [hbb] at q0 hb hdrop
      have HDR := Lib.hid hdrop
      have b0 : (0 : Int) ≤ (b : Int) := by omega
      have b1 : (b : Int) ≤ 255 := by omega
      have i0 : (0 : Int) ≤ (k : Int) := by omega
      have i1 : (k : Int) < (65536 : Int) := by omega
      have i2 : (k : Int) ≤ 65536 := by omega
      have hdn := HDN.out
      rw [hdrop, cmds_cons] at hdn
      obtain ⟨h63, hby⟩ : q + 1 ≤ maxLen ∧ (q + 1) * 16 ≤ 140737488355328 := by unfold maxLen; omega
      by_cases c1 : (b : Int) ≤ 191
      · have HC := cmd1_pick (lq.drop (k + 1)) (show b < 192 by omega)
        rw [HC] at hdn
        have HD2 := Lib.hid hdn
        clear hdn HC hb hbb hdrop hcell
        go_wp2_with (first
          | (at_builtin; refine wpList_append_sl _ rfl (.tmp 49) (.tmp 52) 103 rfl w.heap.size 131 i131 _ 2 16 Try.underlying103 hi hz0 hz1 hz2 rfl (by decide) _ _ _ _ rfl (S.out.alloc _) _ 1 1 [.int .i64 0, .int .u64 (b : Int)] rfl (fresh_cm _ 131 #[.int .i64 0, .int .u64 (b : Int)] rfl rfl) (by intro u hu; simp at hu; rcases hu with rfl | rfl <;> rfl) h63 hby (Nat.le_trans F.out.size (by simp <;> omega)) ?_; intro A' cap' w3 hap; replace hap := Lib.hid hap))
        go_roundw
        case rel =>
          obtain ⟨hs3, hf3, hA3⟩ := hap.out
          refine ⟨k + 1, q + 1, A', cap', don ++ [⟨0, b⟩], by go_num, by omega, rfl, by rw [List.length_append, HDL.out]; rfl, by omega, by rw [← HD2.out, List.append_assoc]; rfl, ?_, ?_⟩
          · rw [rms_snoc]; exact hs3
          · exact (F.out.then_ ((Frm.refl _ _).alloc _)).fresh hf3 (fun j hj => (S.out.ge hj).1)
        case measure => simp [intOf]; omega
      by_cases c2 : (b : Int) ≤ 223
      · have HC := cmd1_tick (lq.drop (k + 1)) (show ¬ b < 192 by omega) (show b < 224 by omega)
        rw [HC] at hdn
        have hb2 : (b : Int) - 191 = ((b - 191 : Nat) : Int) := by omega
        obtain ⟨x, hx⟩ : ∃ x, b - 191 = x := ⟨_, rfl⟩
        rw [hx] at hb2 hdn
        have hb3 : (191 : Int) ≤ (b : Int) := by omega
        have HD2 := Lib.hid hdn
        clear hdn HC hb hbb hdrop hx hcell
        go_wp2_with (first
          | (at_builtin; refine wpList_append_sl _ rfl (.tmp 57) (.tmp 61) 103 rfl w.heap.size 131 i131 _ 2 16 Try.underlying103 hi hz0 hz1 hz2 rfl (by decide) _ _ _ _ rfl (S.out.alloc _) _ 1 1 [.int .i64 1, .int .u64 (x : Int)] rfl (fresh_cm _ 131 #[.int .i64 1, .int .u64 (x : Int)] rfl rfl) (by intro u hu; simp at hu; rcases hu with rfl | rfl <;> rfl) h63 hby (Nat.le_trans F.out.size (by simp <;> omega)) ?_; intro A' cap' w3 hap; replace hap := Lib.hid hap))
        go_roundw
        case rel =>
          obtain ⟨hs3, hf3, hA3⟩ := hap.out
          refine ⟨k + 1, q + 1, A', cap', don ++ [⟨1, x⟩], by go_num, by omega, rfl, by rw [List.length_append, HDL.out]; rfl, by omega, by rw [← HD2.out, List.append_assoc]; rfl, ?_, ?_⟩
          · rw [rms_snoc]; exact hs3
          · exact (F.out.then_ ((Frm.refl _ _).alloc _)).fresh hf3 (fun j hj => (S.out.ge hj).1)
        case measure => simp [intOf]; omega
      have hb3 : (224 : Int) ≤ (b : Int) := by omega
      have hb4 : 256 * ((b : Int) - 224) = ((256 * (b - 224) : Nat) : Int) := by omega
      obtain ⟨x, hx⟩ : ∃ x, 256 * (b - 224) = x := ⟨_, rfl⟩
      rw [hx] at hb4
      have x0 : (0 : Int) ≤ (x : Int) := by omega
      have x1 : (x : Int) ≤ 8000 := by omega
      by_cases hlt2 : k + 1 < 65536
      · have hkl2 : k + 1 < lq.length := by have := HL.out; omega
        have q1 := F.out.cell (hcell (k + 1) hkl2) id
        have hy := HU.out _ (List.getElem_mem hkl2)
        have hdrop2 := drop_cons hkl2
        obtain ⟨y, hyy⟩ : ∃ y, lq[k + 1] = y := ⟨_, rfl⟩
        rw [hyy] at q1 hy hdrop2
        have y0 : (0 : Int) ≤ (y : Int) := by omega
        have y1 : (y : Int) ≤ 255 := by omega
        have HC := cmd1_draw y (lq.drop (k + 1 + 1)) (show ¬ b < 224 by omega)
        rw [hdrop2, HC, hx] at hdn
        have HD2 := Lib.hid hdn
        have i3 : (k : Int) + 1 < (65536 : Int) := by omega
        have i4 : (0 : Int) ≤ (k : Int) + 1 := by omega
        have q2 := ((Frm.refl wr fun _ => False).alloc (.cells #[.int .i64 2, .int .u64 (x : Int)] 131)).cell q1 id
        clear hdn HC hb hbb hdrop hcell hx hyy hy hdrop2
        go_wp2_with fail
        go_region
        all_goals
          go_wp2_with (first
            | (at_builtin; refine wpList_append_sl _ rfl (.tmp 42) (.tmp 44) 103 rfl w.heap.size 131 i131 _ 2 16 Try.underlying103 hi hz0 hz1 hz2 rfl (by decide) _ _ _ _ rfl ((S.out.alloc _).alloc _).drew _ 1 1 [.int .i64 2, .int .u64 ((x : Int) + (y : Int))] rfl (Rd.drew (fresh_cm _ 131 #[.int .i64 2, .int .u64 ((x : Int) + (y : Int))] rfl (by simp))) (by intro u hu; simp at hu; rcases hu with rfl | rfl <;> rfl) h63 hby (Nat.le_trans F.out.size (by simp <;> omega)) ?_; intro A' cap' w3 hap; replace hap := Lib.hid hap))
          go_roundw
          case rel =>
            obtain ⟨hs3, hf3, hA3⟩ := hap.out
            refine ⟨k + 1 + 1, q + 1, A', cap', don ++ [⟨2, x + y⟩], by go_num, by omega, rfl, by rw [List.length_append, HDL.out]; rfl, by omega, by rw [← HD2.out, List.append_assoc]; rfl, ?_, ?_⟩
            · rw [rms_snoc]; exact hs3
            · exact (F.out.then_ (((Frm.refl _ _).alloc _).alloc _).drew).fresh hf3 (fun j hj => (S.out.ge hj).1)
          case measure => simp [intOf]; omega
      · have hend : lq.drop (k + 1) = [] := by rw [List.drop_eq_nil_iff]; have := HL.out; omega
        have HC := cmd1_end (show ¬ b < 224 by omega)
        rw [hend, HC, hx] at hdn
        have HD2 := Lib.hid hdn
        have i3 : ¬ (k : Int) + 1 < (65536 : Int) := by omega
        have hdr2 : lq.drop (k + 1 + 1) = [] := by rw [List.drop_eq_nil_iff]; have := HL.out; omega
        have HDR2 := Lib.hid hdr2
        clear hdn HC hb hbb hdrop hcell hx hend hdr2
        go_wp2_with (first
          | (at_builtin; refine wpList_append_sl _ rfl (.tmp 42) (.tmp 44) 103 rfl w.heap.size 131 i131 _ 2 16 Try.underlying103 hi hz0 hz1 hz2 rfl (by decide) _ _ _ _ rfl ((S.out.alloc _).alloc _) _ 1 1 [.int .i64 2, .int .u64 (x : Int)] rfl (fresh_cm _ 131 #[.int .i64 2, .int .u64 (x : Int)] rfl (by simp)) (by intro u hu; simp at hu; rcases hu with rfl | rfl <;> rfl) h63 hby (Nat.le_trans F.out.size (by simp <;> omega)) ?_; intro A' cap' w3 hap; replace hap := Lib.hid hap))
        go_roundw
        case rel =>
          obtain ⟨hs3, hf3, hA3⟩ := hap.out
          refine ⟨k + 1 + 1, q + 1, A', cap', don ++ [⟨2, x⟩], by go_num, by omega, rfl, by rw [List.length_append, HDL.out]; rfl, by omega, by rw [← HD2.out, HDR2.out, List.append_assoc]; rfl, ?_, ?_⟩
          · rw [rms_snoc]; exact hs3
          · exact (F.out.then_ (((Frm.refl _ _).alloc _).alloc _)).fresh hf3 (fun j hj => (S.out.ge hj).1)
        case measure => simp [intOf]; omega
    · have hend : lq.drop k = [] := by rw [List.drop_eq_nil_iff]; have := HL.out; omega
      have i1 : ¬ (k : Int) < (65536 : Int) := by omega
      go_wp2_with fail
      go_ret
      have hd := HDN.out
      rw [hend, cmds_nil, List.append_nil] at hd
      subst hd
      refine ⟨Ao, co, by rw [HDL.out]; rfl, ?_, F.out⟩
      rw [HDL.out]
      exact S.out
/-- The document's Parse. -/
theorem rparse_any (A : Option Addr) (n c : Nat) (l : List Nat) (w : World) (hr : Rd w w.heap.size 1 A n (by_ l)) (hnc : n ≤ c) (hu : ∀ m ∈ l, m ≤ 255) :
    Calls Try.prog 57 #[.slice A n c] w (RParsePost (cmds (l.take 65536)) w) := by
  have hlen := (Rd.by_ hr).1
  by_cases h : (n : Int) ≤ 65536
  · rw [List.take_of_length_le (by omega)]
    exact rparse_le A n c l w h hr hnc hu
  · have hs := hr.short (show 65536 ≤ n by omega)
    rw [Nat.mul_one, ← by_take] at hs
    exact rparse_gt A n c (l.take 65536) w (by omega) hs (by omega) (fun m hm => hu m (List.mem_of_mem_take hm))
end Go.Proofs.Ytaenclbbiodhfaa
