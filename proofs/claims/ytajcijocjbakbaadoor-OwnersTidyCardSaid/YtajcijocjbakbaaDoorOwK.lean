import Derived.Test.YtajcijocjbakbaaDoorOwG
import Derived.Test.YtajcijocjbakbaaDoorShelf
import Derived.WalkKit
namespace Go.Proofs.YtajcijocjbakbaaDoor
open Go.RowKit Go.MapKept

/-! ### who has a thing -/
/-- Of entries the threads that have what is at an address. -/
def ts (l : List (Th × Value)) (a : Int) : List Int := (l.filter fun p => p.1.2 == a).map fun p => p.1.1
def iV (l : List Int) : List Value := l.map fun x => .int .i64 x
theorem iV_len (l : List Int) : (iV l).length = l.length := by simp [iV]
theorem ts_snoc (l : List (Th × Value)) (x : Th × Value) (a : Int) : ts (l ++ [x]) a = if x.1.2 == a then ts l a ++ [x.1.1] else ts l a := by
  unfold ts
  rw [List.filter_append, List.map_append]
  cases h : x.1.2 == a <;> simp [h]
theorem ts_len (l : List (Th × Value)) (a : Int) : (ts l a).length ≤ l.length := by
  unfold ts
  rw [List.length_map]
  exact List.length_filter_le _ _
theorem ts_perm {l l' : List (Th × Value)} (h : l.Perm l') (a : Int) : (ts l a).Perm (ts l' a) := (h.filter _).map _
/-- How many entries are to come. -/
def leftN (w : World) (r : Nat) : Nat :=
  match w.heap[r]? with
  | some (.mapIter (some b) _ seen _) => match w.heap[b]? with
    | some (.map es _) => (es.toList.filter fun e => !seen.contains e.born).length
    | _ => 0
  | _ => 0
theorem MpR.left {κ : Type} {w : World} {kv : κ → Value} {g : Option Nat} {r : Nat} {l rest : List (κ × Value)} (h : MpR w kv g r l rest) : leftN w r = rest.length := by
  rcases h with ⟨h1, h2, h3, a, s, c, hb⟩ | ⟨b, es, clock, since, seen, c0, h1, h2, hb, h3, h4, hi, h5, h6, h7, h8, h9⟩
  · unfold leftN
    rw [hb, h3]
    rfl
  · unfold leftN
    rw [hi]
    simp only [hb]
    have := congrArg List.length h9
    simpa using this
theorem sorted_frm {w : World} {blk off n : Nat} {os : Array Obj} (d : Array Int) : Frm w (Sort.grow (Sort.putRow (Value.int .i64) (Sort.ahead w n) blk off d) os) fun j => j = blk := by
  refine ⟨rfl, rfl, rfl, by simp, fun k hk hne => ?_⟩
  rw [Sort.heap_grow_old _ _ (by simpa using hk)]
  have : blk ≠ k := fun e => hne e.symm
  simp [Sort.putRow, Sort.mapBlock, Sort.ahead, Array.getElem?_modify, this]
theorem sorted_cell {w : World} {blk off n : Nat} {os : Array Obj} {zs ys : List Int} (h : Sort.Holds (Value.int .i64) w blk off zs.toArray) (hlt : blk < w.heap.size) (hl : ys.length = zs.length) (j : Nat) (hj : j < ys.length) :
    (Sort.grow (Sort.putRow (Value.int .i64) (Sort.ahead w n) blk off ys.toArray) os).cell? ⟨blk, off + j, none⟩ = some (.int .i64 ys[j]) := by
  rw [Sort.cell?_grow _ _ _ (by simpa using hlt)]
  have := Sort.cell?_putRow (Value.int .i64) (Sort.ahead w n) blk off zs.toArray ys.toArray h (by simpa using hl) j (by simpa using hj)
  rw [this]
  simp [hj]
theorem Rd.fresh_at (w : World) (t : TypeId) (c : Array Value) {size n g : Nat} (hn : c.size = n * size) (hg : g = w.heap.size) : Rd (w.alloc (.cells c t)) (w.alloc (.cells c t)).heap.size size (some ⟨g, 0, none⟩) n c.toList := by subst hg; exact Rd.fresh w t c hn
theorem clip_any (A : Option Addr) (n c : Nat) (h : n ≤ c) (w : World) : Calls Tryd.prog 19 #[.slice A n c] w fun e w' => e = .returned (.slice A n n) ∧ w = w' := by
  have i0 : (0 : Int) ≤ (n : Int) := by omega
  have i1 : (n : Int) ≤ (c : Int) := by omega
  go_enter Tryd.func19, Tryd.ntmps19
  go_wp2
  go_ret
  exact ⟨rfl, rfl⟩
theorem info3' : (Tryd.prog.info? 3).map (fun i => (i.zero, i.size, i.bytes)) = some (some (.int .i64 0), 1, 8) := by kernel_rfl
theorem info_parts {o : Option TypeInfo} {z : Option Value} {s b : Nat} (h : o.map (fun i => (i.zero, i.size, i.bytes)) = some (z, s, b)) : ∃ i, o = some i ∧ i.zero = z ∧ i.size = s ∧ i.bytes = b := by
  cases o with
  | none => cases h
  | some i =>
    injection h with h
    injection h with h1 h2
    injection h2 with h2 h3
    exact ⟨i, rfl, h1, h2, h3⟩
theorem sorted_le (l : List Int) : (l.mergeSort fun x y => decide (x ≤ y)).Pairwise fun x y => x ≤ y := by
  have := List.pairwise_mergeSort (le := fun x y : Int => decide (x ≤ y)) (fun a b c h1 h2 => by simp at h1 h2 ⊢; omega) (fun a b => by simp; omega) l
  exact this.imp fun h => by simpa using h
set_option maxRecDepth 100000 in
set_option maxHeartbeats 4000000 in
theorem holders_any (s : Nat) (g : Option Nat) (l : List (Th × Value)) (a : Int) (hl : l.length ≤ 1000) (w : World) (h : Bk w s g l) :
    Calls Tryd.prog 11 #[.pointer (some ⟨s, 0, none⟩), .int .u32 a] w fun e w' => ∃ A zs, e = .returned (.slice A zs.length zs.length) ∧ zs.Perm (ts l a) ∧ zs.Pairwise (fun x y => x ≤ y) ∧ Rd w' w'.heap.size 1 A zs.length (iV zs) ∧ Frm w w' fun _ => False := by
  obtain ⟨i3, hi, hz0, hz1, hz2⟩ := info_parts info3'
  have ht : Tryd.prog.underlying 51 = some (.map 58 44) := by kernel_rfl
  obtain ⟨w1, hrun, hR, hs1, hf1⟩ := MpR.start (P := Tryd.prog) (K := 58) (kv := thV) (w := w) ht h.nil h.map
  have hc := h.cell
  have hne : ∀ b, g = some b → b < w.heap.size := fun b e => (h.map b e).lt
  have HNE := Lib.hid hne
  have HL := Lib.hid hl
  obtain ⟨r, hr⟩ : ∃ r, w.heap.size = r := ⟨_, rfl⟩
  have HWR := Lib.hid hr
  rw [hr] at hrun hR hs1 HNE
  have hpt := h.lt
  clear h hne hl hr
  go_enter Tryd.func11, Tryd.ntmps11
  go_wp2_with fail
  go_loopw [5] (fun o wr => ∃ (rest done : List (Th × Value)) (A : Option Addr) (c : Nat), o = .slice A (ts done a).length c ∧ MpR wr thV g r l rest ∧ l.Perm (done ++ rest) ∧ Sl wr (r + 1) 1 A (ts done a).length c (iV (ts done a)) ∧ Frm w wr fun _ => False) (fun _ wr => leftN wr r)
  case atStart => exact ⟨l, [], none, 0, rfl, hR, List.Perm.refl _, Sl.nil _ _ _, hf1⟩
  case round =>
    clear hR
    obtain ⟨rest, done, A, c, rfl, hR, hperm, hS, hF⟩ := hrel
    have hdl : done.length ≤ 1000 := by have := hperm.length_eq; rw [List.length_append] at this; have := HL.out; omega
    rcases hR.next (P := Tryd.prog) 0 with ⟨h0, hnx⟩ | ⟨x, rest', w2, hp, hnx, hR2, hf2, hs2, hen⟩
    · subst h0
      rw [List.append_nil] at hperm
      have hzp := (ts_perm hperm a).symm
      have hzl := ts_len done a
      obtain ⟨zs, hzs⟩ : ∃ zs, ts done a = zs := ⟨_, rfl⟩
      rw [hzs] at hS hzp hzl ⊢
      have HZP := Lib.hid hzp
      have F := Lib.hid hF
      have S := Lib.hid hS
      have hle := hS.le
      have hz1000 : zs.length ≤ 1000 := by omega
      clear hS hF hR hperm hzs hzp HL HNE hdl hs1 hzl
      rcases S.out.row with ⟨rfl, h0⟩ | ⟨g1, off, rfl, hB, hlt, hcell, -, hfrz⟩
      · have hz0 : zs = [] := List.length_eq_zero_iff.1 (by omega)
        have HZ0 := Lib.hid hz0
        subst h0
        obtain ⟨m, hm⟩ : ∃ m, zs.length = m := ⟨_, rfl⟩
        rw [hm]
        have hm0 : m = 0 := by rw [← hm, hz0]; rfl
        subst hm0
        clear hm hz0 hz1000 hle
        go_wp2_with (first
          | (go_at_call 18; refine (Tryd.slices_Sort_int_none none 0 _).mono ?_; rintro e w' ⟨rfl, rfl⟩)
          | (go_at_call 19; refine (clip_any none 0 0 (Nat.le_refl _) _).mono ?_; rintro e w' ⟨rfl, rfl⟩))
        go_ret
        exact ⟨none, [], rfl, by rw [← HZ0.out]; exact HZP.out, List.Pairwise.nil, Rd.nil _ _ _ _, F.out⟩
      · have hH : Sort.Holds (Value.int .i64) wr g1 off zs.toArray := fun j hj => ⟨by
          have hj' : j < zs.length := by simpa using hj
          rw [hcell j (.int .i64 zs[j]) (by simp [iV, hj'])]
          simp [hj'], hfrz j⟩
        have hsort := Tryd.slices_Sort_int g1 off c zs wr hH hlt (Nat.lt_of_le_of_lt hz1000 (by decide))
        have hl2 : (zs.mergeSort fun x y => decide (x ≤ y)).length = zs.length := List.length_mergeSort zs
        have HS := Lib.hid hsort
        have HH := Lib.hid hH
        have HL2 := Lib.hid hl2
        have HLT := Lib.hid hlt
        have HB := Lib.hid hB
        clear hcell hfrz hsort hH hl2 hlt hB
        obtain ⟨m, hm⟩ : ∃ m, zs.length = m := ⟨_, rfl⟩
        have HM := Lib.hid hm
        rw [hm] at HS hle hz1000 ⊢
        clear hm
        go_wp2_with (first
          | (go_at_call 18; refine HS.out.mono ?_; rintro e w' ⟨rfl, nn, os, rfl⟩)
          | (go_at_call 19; refine (clip_any _ m c hle _).mono ?_; rintro e w' ⟨rfl, rfl⟩))
        go_ret
        have e1 : m = (zs.mergeSort fun x y => decide (x ≤ y)).length := by rw [HL2.out, HM.out]
        refine ⟨some ⟨g1, off, none⟩, zs.mergeSort fun x y => decide (x ≤ y), by rw [e1]; rfl, (List.mergeSort_perm zs _).trans HZP.out, sorted_le zs, ⟨by rw [iV_len]; omega, fun _ => ⟨g1, off, rfl, by have := HLT.out; simp; omega, fun j u hu => ?_⟩⟩, F.out.fresh (sorted_frm _) fun j hj => by have := HB.out; have := HWR.out; omega⟩
        have hj : j < (zs.mergeSort fun x y => decide (x ≤ y)).length := by
          have := (List.getElem?_eq_some_iff.1 hu).1
          rw [iV_len] at this
          exact this
        rw [sorted_cell HH.out HLT.out HL2.out j hj]
        rw [← hu]
        unfold iV
        rw [List.getElem?_map, List.getElem?_eq_getElem hj]
        rfl
    · obtain ⟨⟨t, b⟩, v⟩ := x
      have hnx : (Instr.next (.pointer (some ⟨r, 0, none⟩)) false 0).run Tryd.prog wr = .ok (.tuple #[.bool true, .agg #[.int .i64 t, .int .u32 b], v]) w2 := hnx
      have hen : (Instr.entry (.pointer (some ⟨r, 0, none⟩))).run Tryd.prog w2 = .ok (.tuple #[.agg #[.int .i64 t, .int .u32 b], v]) w2 := hen
      have S := Lib.hid (hS.under hf2 fun k (hk : k = r) => by omega)
      have F := Lib.hid (hF.fresh hf2 fun j (hj : j = r) => by have := HWR.out; omega)
      have hp2 : l.Perm ((done ++ [((t, b), v)]) ++ rest') := hperm.trans (by rw [List.append_assoc]; exact hp.append_left done)
      have hlen2 : done.length + 1 ≤ 1000 := by have := hp2.length_eq; rw [List.length_append, List.length_append, List.length_singleton] at this; have := HL.out; omega
      have hml : leftN w2 r < leftN wr r := by rw [hR2.left, hR.left, hp.length_eq]; simp
      have HP2 := Lib.hid hp2
      have R2 := Lib.hid hR2
      have HLF := Lib.hid hR2.left
      have HML := Lib.hid hml
      have hsn := ts_snoc done ((t, b), v) a
      have hsl := ts_len done a
      have HSN := Lib.hid hsn
      obtain ⟨zs, hzs⟩ : ∃ zs, ts done a = zs := ⟨_, rfl⟩
      have HZS := Lib.hid hzs
      have hr2 := hR2.lt
      clear hs2 hdl hs1
      rw [hzs] at S hsl HSN ⊢
      clear hS hF hR hR2 hperm hp hp2 hml hsn hzs hf2
      obtain ⟨m, hm⟩ : ∃ m, zs.length = m := ⟨_, rfl⟩
      have HM := Lib.hid hm
      rw [hm] at S hsl ⊢
      clear hm
      have hrr : r < w2.heap.size := hr2
      go_upto_region 7 with fail
      refine at_world' ?_
      intro W hW
      have hG : Frm w2 W fun _ => False := by
        rw [hW]
        repeat (first | exact Frm.refl _ _ | with_reducible refine Frm.drew ?_ | with_reducible refine Frm.alloc ?_ _ | with_reducible refine Frm.setCell ?_ (fun h => absurd h (Nat.lt_irrefl _)) _)
      have c0 : W.cell? ⟨w2.heap.size, 0, none⟩ = some (.int .i64 t) := by subst hW; go_simp
      have c1 : W.cell? ⟨w2.heap.size, 1, none⟩ = some (.int .u32 b) := by subst hW; go_simp
      have S3 := Lib.hid (S.out.new_ hG)
      have F3 := Lib.hid (F.out.then_ hG)
      have R3 := Lib.hid (R2.out.frm hG id fun _ _ => id)
      have hz : w2.heap.size < W.heap.size := by subst hW; simp
      have hWr : r + 1 ≤ W.heap.size := by omega
      clear S R2 hW hG hnx hen
      obtain ⟨q, hq⟩ : ∃ q, w2.heap.size = q := ⟨_, rfl⟩
      rw [hq] at c0 c1 hz ⊢
      clear hq hr2 hrr
      have bb : m + 1 ≤ maxLen ∧ (m + 1) * 8 ≤ 140737488355328 := by unfold maxLen; omega
      obtain ⟨r1, r2⟩ := bb
      cases hb : (b == a) with
      | false =>
        rw [hb] at HSN
        go_wp2_with fail
        go_roundw
        case rel => exact ⟨rest', done ++ [((t, b), v)], A, c, by rw [HSN.out, if_neg (by decide), HM.out], R3.out, HP2.out, by rw [HSN.out, if_neg (by decide), HM.out]; exact S3.out, F3.out⟩
        case measure => rw [R3.out.left, ← HLF.out]; exact HML.out
      | true =>
        rw [hb] at HSN
        go_wp2_with (at_builtin; refine wpList_append_sl _ rfl _ _ 40 rfl (r + 1) 3 i3 _ 1 8 Tryd.underlying40 hi hz0 hz1 hz2 rfl (by decide) _ _ _ _ rfl (S3.out.alloc _) _ 1 1 [.int .i64 t] rfl (Rd.fresh_at _ 3 #[.int .i64 t] rfl rfl) (by intro u hu; rw [List.mem_singleton] at hu; subst hu; rfl) r1 r2 (Nat.le_trans hWr (by simp)) ?_; intro A' cap' w3 hap; replace hap := Lib.hid hap)
        go_roundw
        case rel =>
          refine ⟨rest', done ++ [((t, b), v)], A', cap', ?_, ?_, HP2.out, ?_, ?_⟩
          · rw [HSN.out, if_pos rfl, List.length_append, HM.out]
            rfl
          · exact (R3.out.frm ((Frm.refl W (fun _ => False)).alloc _) id fun _ _ => id).frm hap.out.2.1 (fun h => by have := (S3.out.ge h).1; omega) fun q e h => by have := (S3.out.ge h).1; have := HNE.out q e; omega
          · rw [HSN.out, if_pos rfl, List.length_append, HM.out]
            have := hap.out.1
            unfold iV at this ⊢
            rw [List.map_append]
            exact this
          · exact (F3.out.then_ ((Frm.refl _ _).alloc _)).fresh hap.out.2.1 (fun j hj => by have := (S3.out.ge hj).1; have := HWR.out; omega)
        case measure =>
          have h3 := (R3.out.frm ((Frm.refl W (fun _ => False)).alloc (.cells #[.int .i64 t] 3)) id fun _ _ => id).frm hap.out.2.1 (fun h => by have := (S3.out.ge h).1; omega) fun q e h => by have := (S3.out.ge h).1; have := HNE.out q e; omega
          rw [h3.left, ← HLF.out]
          exact HML.out
end Go.Proofs.YtajcijocjbakbaaDoor
