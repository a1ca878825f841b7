import Derived.Test.YtmjpaaippilioaaDoorPiC
import Derived.Test.YtmjpaaippilioaaDoorPhV
namespace Go.Proofs.YtmjpaaippilioaaDoor
open Go.RowKit

/-- What is read of a slice of slices of operations. -/
structure RdR (w : World) (B : Nat) (A : Option Addr) (n : Nat) (hs : List Hd) (qs : List (List OpR)) : Prop where
  out : Rd w B 1 A n (hds hs)
  len : hs.length = n
  lenq : qs.length = n
  row : ∀ (i : Nat) (hi : i < hs.length) (hq : i < qs.length), Rd w B 7 hs[i].A hs[i].n (opsR qs[i])
section
variable {w w' : World} {B n : Nat} {A : Option Addr} {hs : List Hd} {qs : List (List OpR)} {S : Nat → Prop}
theorem RdR.below (h : RdR w B A n hs qs) (hb : Below B w w') : RdR w' B A n hs qs := ⟨h.out.below hb, h.len, h.lenq, fun i hi hq => (h.row i hi hq).below hb⟩
theorem RdR.more {B' : Nat} (h : RdR w B A n hs qs) (hB : B ≤ B') : RdR w B' A n hs qs := ⟨h.out.more hB, h.len, h.lenq, fun i hi hq => (h.row i hi hq).more hB⟩
theorem RdR.new_ (h : RdR w w.heap.size A n hs qs) (k : Frm w w' fun _ => False) : RdR w' w'.heap.size A n hs qs :=
  (h.below (k.below (fun _ _ => id) (Nat.le_refl _))).more k.size
theorem RdR.under {B0 : Nat} (h : RdR w B0 A n hs qs) (k : Frm w w' S) (hS : ∀ j, j < B0 → ¬ S j) (hB : B0 ≤ w.heap.size) : RdR w' B0 A n hs qs := h.below (k.below hS hB)
/-- One queue: its header's cell, its entries' cells. -/
theorem RdR.at (h : RdR w B A n hs qs) {i : Nat} (hi : i < n) : ∃ (g off : Nat) (Ai : Option Addr) (ni ci : Nat) (q : List OpR), A = some ⟨g, off, none⟩ ∧ g < B ∧ w.cell? ⟨g, off + i, none⟩ = some (.slice Ai ni ci) ∧ Rd w B 7 Ai ni (opsR q) ∧ qs[i]? = some q ∧ hs[i]? = some ⟨Ai, ni, ci⟩ ∧ ni = q.length := by
  have h1 : i < hs.length := by rw [h.len]; exact hi
  have h2 : i < qs.length := by rw [h.lenq]; exact hi
  obtain ⟨g, off, e, hg, hc⟩ := h.out.2 (by unfold hds; rw [List.length_map]; omega)
  exact ⟨g, off, hs[i].A, hs[i].n, hs[i].c, qs[i], e, hg, hc i _ (by unfold hds; rw [List.getElem?_map, List.getElem?_eq_getElem h1]; rfl), h.row i h1 h2, List.getElem?_eq_getElem h2, List.getElem?_eq_getElem h1, (by have := (h.row i h1 h2).1; rw [opsR_len] at this; omega)⟩
end
theorem RdR.rowAt {w : World} {B n : Nat} {A : Option Addr} {hs : List Hd} {qs : List (List OpR)} (h : RdR w B A n hs qs) {i : Nat} {hd : Hd} {q : List OpR} (hi : hs[i]? = some hd) (hq : qs[i]? = some q) : Rd w B 7 hd.A hd.n (opsR q) := by
  obtain ⟨h1, rfl⟩ := List.getElem?_eq_some_iff.1 hi
  obtain ⟨h2, rfl⟩ := List.getElem?_eq_some_iff.1 hq
  exact h.row i h1 h2
/-- Slices of operations of the call's own, in a slice of the call's own; each lies in a block of its own; those lie from block C on. -/
structure OwR (w : World) (B C : Nat) (A : Option Addr) (n cap : Nat) (hs : List Hd) (qs : List (List OpR)) : Prop where
  out : Sl w B 1 A n cap (hds hs)
  len : hs.length = n
  lenq : qs.length = n
  row : ∀ (i : Nat) (hi : i < hs.length) (hq : i < qs.length), Sl w C 7 hs[i].A hs[i].n hs[i].c (opsR qs[i])
  dj : ∀ (i j : Nat) (hi : i < hs.length) (hj : j < hs.length), i ≠ j → ∀ k, blk hs[i].A k → ¬ blk hs[j].A k
  dA : ∀ (i : Nat) (hi : i < hs.length) k, blk hs[i].A k → ¬ blk A k
section
variable {w w' : World} {B C n cap : Nat} {A : Option Addr} {hs : List Hd} {qs : List (List OpR)} {S : Nat → Prop}
theorem OwR.frm (h : OwR w B C A n cap hs qs) (hg : Frm w w' S) (hA : ∀ k, blk A k → ¬ S k) (hr : ∀ k, C ≤ k → k < w.heap.size → ¬ S k) : OwR w' B C A n cap hs qs :=
  ⟨h.out.frm hg hA, h.len, h.lenq, fun i hi hq => (h.row i hi hq).frm hg fun k hk => hr k ((h.row i hi hq).ge hk).1 ((h.row i hi hq).ge hk).2, h.dj, h.dA⟩
theorem OwR.new_ (h : OwR w B C A n cap hs qs) (hg : Frm w w' fun _ => False) : OwR w' B C A n cap hs qs := h.frm hg (fun _ _ => id) fun _ _ _ => id
theorem OwR.mono {B' C' : Nat} (h : OwR w B C A n cap hs qs) (hB : B' ≤ B) (hC : C' ≤ C) : OwR w B' C' A n cap hs qs :=
  ⟨h.out.mono hB, h.len, h.lenq, fun i hi hq => (h.row i hi hq).mono hC, h.dj, h.dA⟩
theorem OwR.rd (h : OwR w B C A n cap hs qs) : RdR w w.heap.size A n hs qs := ⟨h.out.rd, h.len, h.lenq, fun i hi hq => (h.row i hi hq).rd⟩
theorem OwR.nil (w : World) (B C : Nat) : OwR w B C none 0 0 [] [] :=
  ⟨Sl.nil _ _ _, rfl, rfl, (fun i hi => by simp at hi), (fun i j hi => by simp at hi), (fun i hi => by simp at hi)⟩
/-- One row. -/
theorem OwR.at {g off i : Nat} (h : OwR w B C (some ⟨g, off, none⟩) n cap hs qs) (hi : i < n) : ∃ (Ai : Option Addr) (ni ci : Nat) (q : List OpR), w.cell? ⟨g, off + i, none⟩ = some (.slice Ai ni ci) ∧ w.frozen? ⟨g, off + i, none⟩ = false ∧ Sl w C 7 Ai ni ci (opsR q) ∧ hs[i]? = some ⟨Ai, ni, ci⟩ ∧ qs[i]? = some q := by
  have h1 : i < hs.length := by rw [h.len]; exact hi
  have h2 : i < qs.length := by rw [h.lenq]; exact hi
  have hc := h.out.le
  obtain ⟨g', off', e, _, _, hcell, hfr⟩ := h.out.form (by omega)
  injection e with e
  injection e with e1 e2
  subst e1 e2
  exact ⟨hs[i].A, hs[i].n, hs[i].c, qs[i], hcell i _ (by unfold hds; rw [List.getElem?_map, List.getElem?_eq_getElem h1]; rfl), hfr i, h.row i h1 h2, List.getElem?_eq_getElem h1, List.getElem?_eq_getElem h2⟩
/-- n empty ones. -/
theorem OwR.made (h : Sl w B 1 A n cap (hds (List.replicate n ⟨none, 0, 0⟩))) (C : Nat) : OwR w B C A n cap (List.replicate n ⟨none, 0, 0⟩) (List.replicate n []) :=
  ⟨h, by simp, by simp, (fun i hi hq => by simpa [opsR] using Sl.nil w C 7), (fun i j hi hj _ k hk => by simp at hk; exact (blk_none _ hk).elim), (fun i hi k hk => by simp at hk; exact (blk_none _ hk).elim)⟩
/-- The row at i is put anew. -/
theorem OwR.put {g off i : Nat} (h : OwR w B C (some ⟨g, off, none⟩) n cap hs qs) (hi : i < hs.length) {w2 : World} {A' : Option Addr} {n' c' : Nat} {q : List OpR}
    (hs2 : Sl w2 C 7 A' n' c' (opsR q)) (hf : Frm w w2 (blk hs[i].A)) (hw : ∀ k, blk A' k → blk hs[i].A k ∨ w.heap.size ≤ k) :
    OwR (w2.setCell ⟨g, off + i, none⟩ (.slice A' n' c')) B C (some ⟨g, off, none⟩) n cap (hs.set i ⟨A', n', c'⟩) (qs.set i q) := by
  have hiq : i < qs.length := by rw [h.lenq, ← h.len]; exact hi
  have hgA : ∀ k, blk (some ⟨g, off, none⟩) k → ¬ blk hs[i].A k := fun k hk hk' => h.dA i hi k hk' hk
  have hlt : ∀ j (hj : j < hs.length) k, blk hs[j].A k → k < w.heap.size := fun j hj k hk => ((h.row j hj (by rw [h.lenq, ← h.len]; exact hj)).ge hk).2
  have hglt : g < w.heap.size := (h.out.ge ((blk_some g off g).2 rfl)).2
  have ng' : ¬ blk A' g := fun hk => (hw g hk).elim (fun hk => h.dA i hi g hk ((blk_some _ _ _).2 rfl)) (fun hk => by omega)
  have o2 := h.out.frm hf hgA
  refine ⟨?_, by rw [List.length_set]; exact h.len, by rw [List.length_set]; exact h.lenq, ?_, ?_, ?_⟩
  · have := o2.set (j := i) (by unfold hds; rw [List.length_map]; exact hi) (.slice A' n' c')
    unfold hds at this ⊢
    rw [List.map_set]
    exact this
  · intro j hj hq
    have hj0 : j < hs.length := by simpa using hj
    have hq0 : j < qs.length := by simpa using hq
    by_cases hij : i = j
    · subst hij
      simp only [List.getElem_set_self]
      exact hs2.setCell ng' _
    · rw [List.getElem_set_ne hij, List.getElem_set_ne hij]
      exact ((h.row j hj0 hq0).frm hf fun k hk hk' => h.dj j i hj0 hi (Ne.symm hij) k hk hk').setCell (fun hk => h.dA j hj0 g hk ((blk_some _ _ _).2 rfl)) _
  · intro a b ha hb hab k hk hk'
    have ha0 : a < hs.length := by simpa using ha
    have hb0 : b < hs.length := by simpa using hb
    rw [List.getElem_set] at hk hk'
    split at hk
    · rename_i e
      subst e
      rw [if_neg hab] at hk'
      exact (hw k hk).elim (fun hk => h.dj i b hi hb0 hab k hk hk') (fun hk => by have := hlt b hb0 k hk'; omega)
    · split at hk'
      · rename_i e
        subst e
        exact (hw k hk').elim (fun h' => h.dj i a hi ha0 (Ne.symm hab) k h' hk) (fun h' => by have := hlt a ha0 k hk; omega)
      · exact h.dj a b ha0 hb0 hab k hk hk'
  · intro a ha k hk hk'
    have ha0 : a < hs.length := by simpa using ha
    rw [List.getElem_set] at hk
    split at hk
    · rw [blk_some] at hk'; subst hk'; exact ng' hk
    · exact h.dA a ha0 k hk hk'
/-- One more row behind. -/
theorem OwR.push {w2 : World} {A2 A' : Option Addr} {cap2 n' c' : Nat} {q : List OpR} (h : OwR w B C A n cap hs qs) (hn : Sl w C 7 A' n' c' (opsR q)) (hd : ∀ k, blk A' k → ¬ blk A k) (hd2 : ∀ i (hi : i < hs.length) k, blk A' k → ¬ blk hs[i].A k)
    (ha : Appended w w2 B 1 A A2 (n + 1) cap2 (hds hs ++ [.slice A' n' c'])) : OwR w2 B C A2 (n + 1) cap2 (hs ++ [⟨A', n', c'⟩]) (qs ++ [q]) := by
  obtain ⟨hs2, hf, hw⟩ := ha
  have hlt : ∀ j (hj : j < hs.length) k, blk hs[j].A k → k < w.heap.size := fun j hj k hk => ((h.row j hj (by rw [h.lenq, ← h.len]; exact hj)).ge hk).2
  refine ⟨by unfold hds at hs2 ⊢; simpa using hs2, by simp [h.len], by simp [h.lenq], ?_, ?_, ?_⟩
  · intro i hi hq
    have hi' : i < hs.length + 1 := by simpa using hi
    by_cases hl : i < hs.length
    · have hlq : i < qs.length := by rw [h.lenq, ← h.len]; exact hl
      rw [List.getElem_append_left hl, List.getElem_append_left hlq]
      exact (h.row i hl hlq).frm hf fun k hk hk' => h.dA i hl k hk hk'
    · obtain rfl : i = hs.length := by omega
      have e : hs.length = qs.length := by rw [h.lenq, ← h.len]
      rw [List.getElem_append_right (Nat.le_refl _), List.getElem_append_right (by omega)]
      simp only [e, Nat.sub_self, List.getElem_cons_zero]
      exact hn.frm hf hd
  · intro a b ha hb hab k hk hk'
    have ha' : a < hs.length + 1 := by simpa using ha
    have hb' : b < hs.length + 1 := by simpa using hb
    by_cases hla : a < hs.length
    · rw [List.getElem_append_left hla] at hk
      by_cases hlb : b < hs.length
      · rw [List.getElem_append_left hlb] at hk'
        exact h.dj a b hla hlb hab k hk hk'
      · obtain rfl : b = hs.length := by omega
        rw [List.getElem_append_right (Nat.le_refl _)] at hk'
        simp only [Nat.sub_self, List.getElem_cons_zero] at hk'
        exact hd2 a hla k hk' hk
    · obtain rfl : a = hs.length := by omega
      rw [List.getElem_append_right (Nat.le_refl _)] at hk
      simp only [Nat.sub_self, List.getElem_cons_zero] at hk
      have hlb : b < hs.length := by omega
      rw [List.getElem_append_left hlb] at hk'
      exact hd2 b hlb k hk hk'
  · intro a ha k hk hk'
    have ha' : a < hs.length + 1 := by simpa using ha
    by_cases hla : a < hs.length
    · rw [List.getElem_append_left hla] at hk
      exact (hw k hk').elim (fun h' => h.dA a hla k hk h') (fun h' => by have := hlt a hla k hk; omega)
    · obtain rfl : a = hs.length := by omega
      rw [List.getElem_append_right (Nat.le_refl _)] at hk
      simp only [Nat.sub_self, List.getElem_cons_zero] at hk
      exact (hw k hk').elim (fun h' => hd k hk h') (fun h' => by have := (hn.ge hk).2; omega)
end
theorem col_lt {α : Type} (z k t : Nat) (hk : k < z) (l : List α) : t < (col z k l).length ↔ k + t * z < l.length := by
  have hz : 0 < z := by omega
  constructor
  · intro h
    by_cases hc : k + t * z < l.length
    · exact hc
    · have hl : l.length = l.length / z * z + l.length % z := by rw [Nat.mul_comm]; exact (Nat.div_add_mod _ _).symm
      have hr := Nat.mod_lt l.length hz
      obtain ⟨q, hq⟩ : ∃ q, l.length / z = q := ⟨_, rfl⟩
      obtain ⟨r, hr2⟩ : ∃ r, l.length % z = r := ⟨_, rfl⟩
      rw [hq, hr2] at hl
      rw [hr2] at hr
      rw [col_len z k hk l q r hl hr] at h
      have hqt : q ≤ t := by
        rcases Nat.lt_or_ge t q with h1 | h1
        · have := Nat.mul_le_mul_right z (show t + 1 ≤ q from h1)
          rw [Nat.add_mul] at this
          omega
        · exact h1
      by_cases he : q = t
      · subst he
        split at h <;> omega
      · split at h <;> omega
  · intro h
    have h1 := col_get z hz l (k + t * z) h
    have e1 : (k + t * z) % z = k := by rw [Nat.add_mul_mod_self_right, Nat.mod_eq_of_lt hk]
    have e2 : (k + t * z) / z = t := by rw [Nat.add_mul_div_right _ _ hz, Nat.div_eq_of_lt hk, Nat.zero_add]
    rw [e1, e2] at h1
    exact (List.getElem?_eq_some_iff.1 h1).1
theorem col_next {α : Type} (z k t : Nat) (hk : k < z) (l : List α) (h : k + t * z < l.length) : (col z k l).take (t + 1) = (col z k l).take t ++ [l[k + t * z]] := by
  have hz : 0 < z := by omega
  have h1 := col_get z hz l (k + t * z) h
  have e1 : (k + t * z) % z = k := by rw [Nat.add_mul_mod_self_right, Nat.mod_eq_of_lt hk]
  have e2 : (k + t * z) / z = t := by rw [Nat.add_mul_div_right _ _ hz, Nat.div_eq_of_lt hk, Nat.zero_add]
  rw [e1, e2] at h1
  obtain ⟨h2, h3⟩ := List.getElem?_eq_some_iff.1 h1
  rw [List.take_succ_eq_append_getElem h2, h3]
end Go.Proofs.YtmjpaaippilioaaDoor
namespace Go.Proofs.YtmjpaaippilioaaDoor
open Go.RowKit

/-! ### the document's Split -/
theorem info43 : (Tryd.prog.info? 43).map (fun i => (i.zero, i.size, i.bytes)) = some (some (.slice none 0 0), 1, 24) := by kernel_rfl
set_option maxRecDepth 100000 in
set_option maxHeartbeats 4000000 in
theorem split_ref (A : Option Addr) (n c : Nat) (m : Int) (z : Nat) (hz : z = (min m 64).toNat) (hm1 : -9223372036854775808 ≤ m) (hm2 : m ≤ 9223372036854775807) (xs : List OpR) (w : World) (hr : Rd w w.heap.size 7 A n (opsR xs)) (hn : (n : Int) ≤ 1000) :
    Calls Tryd.prog 43 #[.slice A n c, .int .i64 m] w fun e w' => ∃ A' c' hs', e = .returned (.slice A' z c') ∧ OwR w' w.heap.size w.heap.size A' z c' hs' (cols z xs) ∧ Frm w w' fun _ => False := by
  obtain ⟨i43, hi, hz0, hz1, hz2⟩ := info_parts info43
  obtain ⟨i71, ji, jz0, jz1, jz2⟩ := info_parts info71
  obtain ⟨hxl, hxc⟩ := Rd.rows OpR.rcs_len (by decide) hr
  have HXL := Lib.hid hxl
  have HXC := Lib.hid hxc
  have hz64 : z ≤ 64 := by omega
  have HZ64 := Lib.hid hz64
  clear hxl hxc hr
  by_cases h : 64 < m
  · obtain rfl : z = 64 := by omega
    have HZP := Lib.hid (show 1 ≤ 64 by omega)
    clear hz
    go_enter Tryd.func43, Tryd.ntmps43
    go_wp2_with fail
    go_loopw [5, 6] (fun so i wr => ∃ (k : Nat) (Ao : Option Addr) (co : Nat) (hs : List Hd), i = .int .i64 k ∧ k ≤ 64 ∧ so = .slice Ao k co ∧ OwR wr w.heap.size w.heap.size Ao k co hs ((cols 64 xs).take k) ∧ Frm w wr fun _ => False) (fun _ i _ => 64 - (intOf i).toNat)
    case atStart => exact ⟨0, none, 0, [], rfl, Nat.zero_le _, rfl, OwR.nil _ _ _, Frm.refl _ _⟩
    case round =>
      obtain ⟨k, Ao, co, hs, rfl, hk, rfl, hO, hF⟩ := hrel
      have O := Lib.hid hO
      have F := Lib.hid hF
      have k0 : (0 : Int) ≤ (k : Int) := by omega
      have k1 : (k : Int) ≤ 64 := by have := HZ64.out; omega
      clear hO hF
      by_cases hlt : k < 64
      · have hkM : (k : Int) < (64 : Int) := by omega
        obtain ⟨W, hW⟩ : ∃ W, W = wr := ⟨_, rfl⟩
        rw [← hW] at O F
        have HW := Lib.hid hW
        have HB := Lib.hid (show w.heap.size ≤ W.heap.size from F.out.size)
        have hcl : k < (cols 64 xs).length := by rw [cols_len]; exact hlt
        have htk : (cols 64 xs).take (k + 1) = (cols 64 xs).take k ++ [col 64 k xs] := by
          rw [List.take_succ_eq_append_getElem hcl, cols_at]
        have HTK := Lib.hid htk
        have HLT := Lib.hid hlt
        have hz1' : (1 : Int) ≤ (64 : Int) := by omega
        clear hW hcl htk
        go_wp2_with fail
        rw [← HW.out]
        go_loopw [7, 8] (fun so i wr => ∃ (t : Nat) (A1 : Option Addr) (c1 : Nat), i = .int .i64 ((k + t * 64 : Nat) : Int) ∧ t ≤ (col 64 k xs).length ∧ so = .slice A1 t c1 ∧ Sl wr W.heap.size 7 A1 t c1 (opsR ((col 64 k xs).take t)) ∧ Frm W wr fun _ => False) (fun _ i _ => n + 1 - (intOf i).toNat)
        case atStart => exact ⟨0, none, 0, by simp, Nat.zero_le _, rfl, Sl.nil _ _ _, Frm.refl _ _⟩
        case round =>
          obtain ⟨t, A1, c1, rfl, ht, rfl, hS, hF2⟩ := hrel
          have S := Lib.hid hS
          have F2 := Lib.hid hF2
          obtain ⟨j, hj⟩ : ∃ j, k + t * 64 = j := ⟨_, rfl⟩
          have HJ := Lib.hid hj
          have hcol : t < (col 64 k xs).length ↔ j < xs.length := by subst hj; exact col_lt 64 k t HLT.out xs
          have hnx : ∀ h : j < xs.length, (col 64 k xs).take (t + 1) = (col 64 k xs).take t ++ [xs[j]] := fun h => by subst hj; exact col_next 64 k t HLT.out xs h
          rw [hj]
          have HCO := Lib.hid hcol
          have HNX := Lib.hid hnx
          have j0 : (0 : Int) ≤ (j : Int) := by omega
          clear hS hF2 hcol hnx hj
          by_cases hjn : j < n
          · have j1 : (j : Int) < (n : Int) := by omega
            have hjl : j < xs.length := by have := HXL.out; omega
            have htl := HCO.out.2 hjl
            have hn2 := HNX.out hjl
            obtain ⟨g, off, rfl, -, hc⟩ := HXC.out (by omega)
            have hx := hc j hjl
            obtain ⟨X, hX⟩ : ∃ X, xs[j] = X := ⟨_, rfl⟩
            rw [hX] at hx hn2
            have hcn : (col 64 k xs).length ≤ 1000 := by
              unfold col
              rw [List.length_map]
              refine Nat.le_trans (List.length_filter_le _ _) ?_
              rw [List.length_zipIdx]
              have := HXL.out; omega
            obtain ⟨h63, hby⟩ : t + 1 ≤ maxLen ∧ (t + 1) * 48 ≤ 140737488355328 := by unfold maxLen; omega
            have HN2 := Lib.hid hn2
            have HTL := Lib.hid htl
            obtain ⟨xk, xa, xo, xt, xfl, xfa, xg⟩ := X
            have hFW := F.out.then_ F2.out
            have x0 : wr.cell? ⟨g, off + j * 7, none⟩ = some (.int .i64 xk) := hFW.cell (hx 0 _ rfl) id
            have x1 : wr.cell? ⟨g, off + j * 7 + 1, none⟩ = some (.int .i64 xa) := hFW.cell (hx 1 _ rfl) id
            have x2 : wr.cell? ⟨g, off + j * 7 + 2, none⟩ = some (.int .i64 xo) := hFW.cell (hx 2 _ rfl) id
            have x3 : wr.cell? ⟨g, off + j * 7 + 3, none⟩ = some (.int .i64 xt) := hFW.cell (hx 3 _ rfl) id
            have x4 : wr.cell? ⟨g, off + j * 7 + 4, none⟩ = some (.bool xfl) := hFW.cell (hx 4 _ rfl) id
            have x5 : wr.cell? ⟨g, off + j * 7 + 5, none⟩ = some (.bool xfa) := hFW.cell (hx 5 _ rfl) id
            have x6 : wr.cell? ⟨g, off + j * 7 + 6, none⟩ = some (.int .i64 xg) := hFW.cell (hx 6 _ rfl) id
            have HF2S := Lib.hid F2.out.size
            clear hc hx hX hcn hn2 htl hFW
            go_wp2_with (at_builtin; refine wpList_append_sl _ rfl (.tmp 24) (.tmp 29) 43 rfl W.heap.size 71 i71 _ 7 48 Tryd.underlying43 ji jz0 jz1 jz2 rfl (by decide) _ _ _ _ rfl (S.out.alloc _) _ 1 1 _ rfl (Rd.fresh_at _ 71 _ rfl (by simp)) (OpR.rcs_one ⟨xk, xa, xo, xt, xfl, xfa, xg⟩) h63 hby (Nat.le_trans HF2S.out (by simp)) ?_; intro A3 c3 w5 hap; replace hap := Lib.hid hap)
            go_roundw
            case rel =>
              refine ⟨t + 1, A3, c3, by have := HJ.out; rw [Nat.add_mul, Nat.one_mul, ← Nat.add_assoc, this]; go_num, HTL.out, rfl, ?_, (F2.out.then_ ((Frm.refl _ _).alloc _)).trans hap.out.2.1 (fun q hq h => absurd (S.out.ge h).1 (by omega))⟩
              rw [HN2.out, opsR_snoc]
              exact hap.out.1
            case measure => have := HZP.out; simp [intOf]; omega
          · have hjn' : (n : Int) ≤ (j : Int) := by omega
            have htl : (col 64 k xs).length = t := by
              rcases Nat.lt_or_ge t (col 64 k xs).length with h | h
              · have := HCO.out.1 h; have := HXL.out; omega
              · omega
            have hS := S.out
            rw [List.take_of_length_le (by omega)] at hS
            have S3 := Lib.hid hS
            have HF2S := Lib.hid F2.out.size
            obtain ⟨h63, hby⟩ : k + 1 ≤ maxLen ∧ (k + 1) * 24 ≤ 140737488355328 := by unfold maxLen; omega
            have O2 := Lib.hid (O.out.new_ F2.out)
            clear hS htl
            go_wp2_with (at_builtin; refine wpList_append_sl _ rfl (.tmp 31) (.tmp 33) 61 rfl w.heap.size 43 i43 _ 1 24 Tryd.underlying61 hi hz0 hz1 hz2 rfl (by decide) _ _ _ _ rfl (O2.out.out.alloc _) _ 1 1 [.slice A1 t c1] rfl (Rd.fresh_at _ 43 #[.slice A1 t c1] rfl (by simp)) (by intro u hu; rw [List.mem_singleton] at hu; subst hu; rfl) h63 hby (Nat.le_trans HB.out (Nat.le_trans HF2S.out (by simp))) ?_; intro A3 c3 w5 hap; replace hap := Lib.hid hap)
            go_roundw
            case rel =>
              have hp := (O2.out.new_ ((Frm.refl wr fun _ => False).alloc (.cells #[.slice A1 t c1] 43))).push (A' := A1) (n' := t) (c' := c1) (q := col 64 k xs) ((S3.out.alloc _).mono HB.out) (fun q hq h => by have h1 := (S3.out.ge hq).1; have h2 := (O.out.out.ge h).2; omega) (fun i hi' q hq h => by have h1 := (S3.out.ge hq).1; have h2 := ((O.out.row i hi' (by rw [O.out.lenq, ← O.out.len]; exact hi')).ge h).2; omega) hap.out
              rw [← HTK.out] at hp
              exact ⟨k + 1, A3, c3, _, by go_num, by omega, rfl, hp, ((F.out.then_ F2.out).then_ ((Frm.refl _ _).alloc _)).trans hap.out.2.1 (fun q hq h => absurd (O.out.out.ge h).1 (by omega))⟩
            case measure => simp [intOf]; omega
      · have hkM : ¬ (k : Int) < (64 : Int) := by omega
        obtain rfl : k = 64 := by omega
        go_wp2_with fail
        go_ret
        refine ⟨Ao, co, rfl, ⟨hs, ?_⟩, F.out⟩
        have := O.out
        rw [List.take_of_length_le (by rw [cols_len]; exact Nat.le_refl _)] at this
        exact this
  · by_cases h1 : m < 1
    · have hz0' : z = 0 := by omega
      subst hz0'
      clear hz
      go_enter Tryd.func43, Tryd.ntmps43
      go_wp2_with fail
      go_loopw [5, 6] (fun so i wr => i = .int .i64 0 ∧ so = .slice none 0 0 ∧ w = wr) (fun _ _ _ => 0)
      case atStart => exact ⟨rfl, rfl, rfl⟩
      case round =>
        obtain ⟨rfl, rfl, hw⟩ := hrel
        subst hw
        have hm0 : m ≤ 0 := by omega
        go_wp2_with fail
        go_ret
        exact ⟨none, 0, [], rfl, OwR.nil _ _ _, Frm.refl _ _⟩
    · obtain ⟨y, rfl⟩ := Int.eq_ofNat_of_zero_le (show 0 ≤ m by omega)
      obtain rfl : z = y := by omega
      have HZP := Lib.hid (show 1 ≤ z by omega)
      have zle : ¬ (64 : Int) < (z : Int) := by omega
      have hm64 : (z : Int) ≤ 64 := by omega
      clear hz h h1 hm1 hm2
      go_enter Tryd.func43, Tryd.ntmps43
      go_wp2_with fail
      go_loopw [5, 6] (fun so i wr => ∃ (k : Nat) (Ao : Option Addr) (co : Nat) (hs : List Hd), i = .int .i64 k ∧ k ≤ z ∧ so = .slice Ao k co ∧ OwR wr w.heap.size w.heap.size Ao k co hs ((cols z xs).take k) ∧ Frm w wr fun _ => False) (fun _ i _ => z - (intOf i).toNat)
      case atStart => exact ⟨0, none, 0, [], rfl, Nat.zero_le _, rfl, OwR.nil _ _ _, Frm.refl _ _⟩
      case round =>
        obtain ⟨k, Ao, co, hs, rfl, hk, rfl, hO, hF⟩ := hrel
        have O := Lib.hid hO
        have F := Lib.hid hF
        have k0 : (0 : Int) ≤ (k : Int) := by omega
        have k1 : (k : Int) ≤ 64 := by have := HZ64.out; omega
        clear hO hF
        by_cases hlt : k < z
        · have hkM : (k : Int) < (z : Int) := by omega
          obtain ⟨W, hW⟩ : ∃ W, W = wr := ⟨_, rfl⟩
          rw [← hW] at O F
          have HW := Lib.hid hW
          have HB := Lib.hid (show w.heap.size ≤ W.heap.size from F.out.size)
          have hcl : k < (cols z xs).length := by rw [cols_len]; exact hlt
          have htk : (cols z xs).take (k + 1) = (cols z xs).take k ++ [col z k xs] := by
            rw [List.take_succ_eq_append_getElem hcl, cols_at]
          have HTK := Lib.hid htk
          have HLT := Lib.hid hlt
          have hz1' : (1 : Int) ≤ (z : Int) := by omega
          clear hW hcl htk
          go_wp2_with fail
          rw [← HW.out]
          go_loopw [7, 8] (fun so i wr => ∃ (t : Nat) (A1 : Option Addr) (c1 : Nat), i = .int .i64 ((k + t * z : Nat) : Int) ∧ t ≤ (col z k xs).length ∧ so = .slice A1 t c1 ∧ Sl wr W.heap.size 7 A1 t c1 (opsR ((col z k xs).take t)) ∧ Frm W wr fun _ => False) (fun _ i _ => n + 1 - (intOf i).toNat)
          case atStart => exact ⟨0, none, 0, by simp, Nat.zero_le _, rfl, Sl.nil _ _ _, Frm.refl _ _⟩
          case round =>
            obtain ⟨t, A1, c1, rfl, ht, rfl, hS, hF2⟩ := hrel
            have S := Lib.hid hS
            have F2 := Lib.hid hF2
            obtain ⟨j, hj⟩ : ∃ j, k + t * z = j := ⟨_, rfl⟩
            have HJ := Lib.hid hj
            have hcol : t < (col z k xs).length ↔ j < xs.length := by subst hj; exact col_lt z k t HLT.out xs
            have hnx : ∀ h : j < xs.length, (col z k xs).take (t + 1) = (col z k xs).take t ++ [xs[j]] := fun h => by subst hj; exact col_next z k t HLT.out xs h
            rw [hj]
            have HCO := Lib.hid hcol
            have HNX := Lib.hid hnx
            have j0 : (0 : Int) ≤ (j : Int) := by omega
            clear hS hF2 hcol hnx hj
            by_cases hjn : j < n
            · have j1 : (j : Int) < (n : Int) := by omega
              have hjl : j < xs.length := by have := HXL.out; omega
              have htl := HCO.out.2 hjl
              have hn2 := HNX.out hjl
              obtain ⟨g, off, rfl, -, hc⟩ := HXC.out (by omega)
              have hx := hc j hjl
              obtain ⟨X, hX⟩ : ∃ X, xs[j] = X := ⟨_, rfl⟩
              rw [hX] at hx hn2
              have hcn : (col z k xs).length ≤ 1000 := by
                unfold col
                rw [List.length_map]
                refine Nat.le_trans (List.length_filter_le _ _) ?_
                rw [List.length_zipIdx]
                have := HXL.out; omega
              obtain ⟨h63, hby⟩ : t + 1 ≤ maxLen ∧ (t + 1) * 48 ≤ 140737488355328 := by unfold maxLen; omega
              have HN2 := Lib.hid hn2
              have HTL := Lib.hid htl
              obtain ⟨xk, xa, xo, xt, xfl, xfa, xg⟩ := X
              have hFW := F.out.then_ F2.out
              have x0 : wr.cell? ⟨g, off + j * 7, none⟩ = some (.int .i64 xk) := hFW.cell (hx 0 _ rfl) id
              have x1 : wr.cell? ⟨g, off + j * 7 + 1, none⟩ = some (.int .i64 xa) := hFW.cell (hx 1 _ rfl) id
              have x2 : wr.cell? ⟨g, off + j * 7 + 2, none⟩ = some (.int .i64 xo) := hFW.cell (hx 2 _ rfl) id
              have x3 : wr.cell? ⟨g, off + j * 7 + 3, none⟩ = some (.int .i64 xt) := hFW.cell (hx 3 _ rfl) id
              have x4 : wr.cell? ⟨g, off + j * 7 + 4, none⟩ = some (.bool xfl) := hFW.cell (hx 4 _ rfl) id
              have x5 : wr.cell? ⟨g, off + j * 7 + 5, none⟩ = some (.bool xfa) := hFW.cell (hx 5 _ rfl) id
              have x6 : wr.cell? ⟨g, off + j * 7 + 6, none⟩ = some (.int .i64 xg) := hFW.cell (hx 6 _ rfl) id
              have HF2S := Lib.hid F2.out.size
              clear hc hx hX hcn hn2 htl hFW
              go_wp2_with (at_builtin; refine wpList_append_sl _ rfl (.tmp 24) (.tmp 29) 43 rfl W.heap.size 71 i71 _ 7 48 Tryd.underlying43 ji jz0 jz1 jz2 rfl (by decide) _ _ _ _ rfl (S.out.alloc _) _ 1 1 _ rfl (Rd.fresh_at _ 71 _ rfl (by simp)) (OpR.rcs_one ⟨xk, xa, xo, xt, xfl, xfa, xg⟩) h63 hby (Nat.le_trans HF2S.out (by simp)) ?_; intro A3 c3 w5 hap; replace hap := Lib.hid hap)
              go_roundw
              case rel =>
                refine ⟨t + 1, A3, c3, by have := HJ.out; rw [Nat.add_mul, Nat.one_mul, ← Nat.add_assoc, this]; go_num, HTL.out, rfl, ?_, (F2.out.then_ ((Frm.refl _ _).alloc _)).trans hap.out.2.1 (fun q hq h => absurd (S.out.ge h).1 (by omega))⟩
                rw [HN2.out, opsR_snoc]
                exact hap.out.1
              case measure => have := HZP.out; simp [intOf]; omega
            · have hjn' : (n : Int) ≤ (j : Int) := by omega
              have htl : (col z k xs).length = t := by
                rcases Nat.lt_or_ge t (col z k xs).length with h | h
                · have := HCO.out.1 h; have := HXL.out; omega
                · omega
              have hS := S.out
              rw [List.take_of_length_le (by omega)] at hS
              have S3 := Lib.hid hS
              have HF2S := Lib.hid F2.out.size
              obtain ⟨h63, hby⟩ : k + 1 ≤ maxLen ∧ (k + 1) * 24 ≤ 140737488355328 := by unfold maxLen; omega
              have O2 := Lib.hid (O.out.new_ F2.out)
              clear hS htl
              go_wp2_with (at_builtin; refine wpList_append_sl _ rfl (.tmp 31) (.tmp 33) 61 rfl w.heap.size 43 i43 _ 1 24 Tryd.underlying61 hi hz0 hz1 hz2 rfl (by decide) _ _ _ _ rfl (O2.out.out.alloc _) _ 1 1 [.slice A1 t c1] rfl (Rd.fresh_at _ 43 #[.slice A1 t c1] rfl (by simp)) (by intro u hu; rw [List.mem_singleton] at hu; subst hu; rfl) h63 hby (Nat.le_trans HB.out (Nat.le_trans HF2S.out (by simp))) ?_; intro A3 c3 w5 hap; replace hap := Lib.hid hap)
              go_roundw
              case rel =>
                have hp := (O2.out.new_ ((Frm.refl wr fun _ => False).alloc (.cells #[.slice A1 t c1] 43))).push (A' := A1) (n' := t) (c' := c1) (q := col z k xs) ((S3.out.alloc _).mono HB.out) (fun q hq h => by have h1 := (S3.out.ge hq).1; have h2 := (O.out.out.ge h).2; omega) (fun i hi' q hq h => by have h1 := (S3.out.ge hq).1; have h2 := ((O.out.row i hi' (by rw [O.out.lenq, ← O.out.len]; exact hi')).ge h).2; omega) hap.out
                rw [← HTK.out] at hp
                exact ⟨k + 1, A3, c3, _, by go_num, by omega, rfl, hp, ((F.out.then_ F2.out).then_ ((Frm.refl _ _).alloc _)).trans hap.out.2.1 (fun q hq h => absurd (O.out.out.ge h).1 (by omega))⟩
              case measure => simp [intOf]; omega
        · have hkM : ¬ (k : Int) < (z : Int) := by omega
          obtain rfl : k = z := by omega
          go_wp2_with fail
          go_ret
          refine ⟨Ao, co, rfl, ⟨hs, ?_⟩, F.out⟩
          have := O.out
          rw [List.take_of_length_le (by rw [cols_len]; exact Nat.le_refl _)] at this
          exact this
end Go.Proofs.YtmjpaaippilioaaDoor
