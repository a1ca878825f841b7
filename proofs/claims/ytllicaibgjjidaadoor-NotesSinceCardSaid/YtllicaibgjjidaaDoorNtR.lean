import Derived.Test.YtllicaibgjjidaaDoorNtK
import Derived.Test.YtllicaibgjjidaaDoorGrw
namespace Go.Proofs.YtllicaibgjjidaaDoor
open Go.RowKit
theorem kA_read (j : Nat) (hj : j < 38) : (kA 38)[j]? = some (.string (nm j)) := by simp [kA, hj]
theorem kA_size : (kA 38).size = 38 := by simp [kA]
theorem index_kinds (k : Int) (k0 : 0 ≤ k) (k1 : k < 38) (w : World) : (Instr.index 56 (.agg (kA 38)) (.int .i64 k)).run Tryd.prog w = .ok (.string (nm k.toNat)) w := by
  have hr : (kA 38)[k.toNat]? = some (.string (nm k.toNat)) := kA_read _ (by omega)
  have hs := kA_size
  simp [Instr.index, asIntOf, part, k0, k1, Tryd.runUnderlying56, Tryd.sizeOf9, Tryd.isAgg9, hs, go_sem]
  exact (Array.getElem?_eq_some_iff.1 hr).2
theorem rname_any (k : Int) (k0 : 0 ≤ k) (k1 : k ≤ 255) (w : World) : Calls Tryd.prog 18 #[.int .i64 k] w fun e w' => e = .returned (.string (nmI k)) ∧ Frm w w' fun _ => False := by
  by_cases h : k < 38
  · have e : Hid (nmI k = nm k.toNat) := by show _ = _; unfold nmI; rw [if_pos h]
    have b1 : decide (k < 0) = false := by simp; omega
    have b2 : decide (37 < k) = false := by simp; omega
    have hi := index_kinds k k0 h
    go_enter Tryd.func18, Tryd.ntmps18
    go_wp2_with (go_at_call 22; refine (kinds_any _).mono ?_; rintro e w' ⟨rfl, hf⟩)
    go_ret
    rw [e.out]
    exact ⟨rfl, hf⟩
  · have e : Hid (nmI k = ⟨#[]⟩) := by show _ = _; unfold nmI; rw [if_neg h]
    have b1 : decide (k < 0) = false := by simp; omega
    have b2 : decide (37 < k) = true := by simp; omega
    go_enter Tryd.func18, Tryd.ntmps18
    go_wp2
    go_ret
    rw [e.out]
    exact ⟨rfl, Frm.refl _ _⟩
abbrev boxR (n : Nt) : Obj := .cells #[.int .i64 n.s, .int .i64 n.t, .int .i64 n.k, .int .u32 n.a, .int .i64 n.o, .int .u32 n.p, .int .u64 n.v] 43
theorem boxR_get (w : World) (n : Nt) : ∀ j u, n.R[j]? = some u → (w.alloc (boxR n)).cell? ⟨w.heap.size, j, none⟩ = some u := by
  intro j u hu
  rw [World.cell?_alloc_new]
  rcases j with _ | _ | _ | _ | _ | _ | _ | j <;> simp [Nt.R] at hu ⊢ <;> exact hu
theorem Few.room7 {n : Nat} (h : Few n) : n + 1 ≤ maxLen ∧ (n + 1) * 56 ≤ 140737488355328 := by have := h.lt; unfold maxLen; omega
theorem radd_refused_kind (B b cap : Nat) (A : Option Addr) (xs : List Nt) (n : Nt) (k0 : 0 ≤ n.k) (k1 : n.k ≤ 255) (w : World) (h : Lst Nt.R w B b A cap xs) (hk : isK n.k = false) :
    Calls Tryd.prog 12 #[.pointer (some ⟨b, 0, none⟩), .agg #[.int .i64 n.s, .int .i64 n.t, .int .i64 n.k, .int .u32 n.a, .int .i64 n.o, .int .u32 n.p, .int .u64 n.v]] w fun e w' => e = .returned (.int .i64 1) ∧ Added Nt.R w w' B b A xs := by
  have e1 := nmI_empty n.k k0
  rw [hk] at e1
  have e1' : (nmI n.k).toList.isEmpty = true := e1
  have H := Lib.hid h
  have hlt := World.block_lt_of_cell? w _ h.head
  clear h hk e1
  have c2 := Grown.cell (boxR_get w n 2 _ rfl)
  go_enter Tryd.func12, Tryd.ntmps12
  go_wp2_with fail
  refine wp_region_grown (w.alloc (boxR n)) (by (exact Frm.refl _ _)) (by kernel_rfl) (by kernel_rfl) ?_
  repeat (go_big_quiet_step ((go_at_call 18; refine Calls.grown_of (rname_any n.k k0 k1 _))))
  refine wpQuiet_nil ?_
  intro wq hq
  go_wp2
  go_ret
  exact ⟨rfl, Added.same H.out (((Frm.refl w _).alloc _).then_ hq)⟩

theorem radd_refused_step (B b cap : Nat) (A : Option Addr) (ys : List Nt) (l n : Nt) (k0 : 0 ≤ n.k) (k1 : n.k ≤ 255) (w : World) (h : Lst Nt.R w B b A cap (ys ++ [l])) (hk : isK n.k = true) (hs : n.s < l.s) :
    Calls Tryd.prog 12 #[.pointer (some ⟨b, 0, none⟩), .agg #[.int .i64 n.s, .int .i64 n.t, .int .i64 n.k, .int .u32 n.a, .int .i64 n.o, .int .u32 n.p, .int .u64 n.v]] w fun e w' => e = .returned (.int .i64 1) ∧ Added Nt.R w w' B b A (ys ++ [l]) := by
  have e1 := nmI_empty n.k k0
  rw [hk] at e1
  have e1' : (nmI n.k).toList.isEmpty = false := e1
  have H := Lib.hid h
  have hlt := World.block_lt_of_cell? w _ h.head
  obtain ⟨g, off, rfl, hB, hgl, hlast⟩ := last_cell lenR (fun _ => rfl) h
  have hhd : w.cell? ⟨b, 0, none⟩ = some (.slice (some ⟨g, off, none⟩) (ys.length + 1) cap) := by simpa using h.head
  have hmax : ys.length + 1 ≤ 9223372036854775807 := by have := h.sl.le; have := h.sl.max; unfold maxLen at this; simp at *; omega
  have i0 : (0 : Int) ≤ (ys.length : Int) := by omega
  have i1 : (ys.length : Int) < (ys.length : Int) + 1 := by omega
  have hW := Lib.hid ((Frm.refl w fun _ => False).alloc (boxR n))
  have c0 := Grown.cell (boxR_get w n 0 _ rfl)
  have c2 := Grown.cell (boxR_get w n 2 _ rfl)
  have ch := Grown.cell (hW.out.cell hhd id)
  have cl := Grown.cell (hW.out.cell hlast id)
  clear h hk e1 hhd hlast
  go_enter Tryd.func12, Tryd.ntmps12
  go_wp2_with fail
  refine wp_region_grown (w.alloc (boxR n)) (by (exact Frm.refl _ _)) (by kernel_rfl) (by kernel_rfl) ?_
  repeat (go_big_quiet_step ((go_at_call 18; refine Calls.grown_of (rname_any n.k k0 k1 _))))
  refine wpQuiet_nil ?_
  intro wq hq
  go_wp2
  go_ret
  exact ⟨rfl, Added.same H.out (hW.out.then_ hq)⟩

set_option maxHeartbeats 1000000 in
theorem radd_taken_last (B b cap : Nat) (A : Option Addr) (ys : List Nt) (l n : Nt) (k0 : 0 ≤ n.k) (k1 : n.k ≤ 255) (w : World) (h : Lst Nt.R w B b A cap (ys ++ [l])) (hB0 : B ≤ w.heap.size) (hk : isK n.k = true) (hs : ¬ n.s < l.s) (hlen : Few (ys.length + 1)) :
    Calls Tryd.prog 12 #[.pointer (some ⟨b, 0, none⟩), .agg #[.int .i64 n.s, .int .i64 n.t, .int .i64 n.k, .int .u32 n.a, .int .i64 n.o, .int .u32 n.p, .int .u64 n.v]] w fun e w' => e = .returned (.int .i64 0) ∧ Added Nt.R w w' B b A (ys ++ [l] ++ [n]) := by
  have e1 := nmI_empty n.k k0
  rw [hk] at e1
  have e1' : (nmI n.k).toList.isEmpty = false := e1
  have H := Lib.hid h
  have hlt := World.block_lt_of_cell? w _ h.head
  obtain ⟨g, off, rfl, hB, hgl, hlast⟩ := last_cell lenR (fun _ => rfl) h
  have hhd : w.cell? ⟨b, 0, none⟩ = some (.slice (some ⟨g, off, none⟩) (ys.length + 1) cap) := by simpa using h.head
  have hfr := h.free
  have hmax := hlen.max
  have i0 : (0 : Int) ≤ (ys.length : Int) := by omega
  have i1 : (ys.length : Int) < (ys.length : Int) + 1 := by omega
  have bs : decide (n.s < l.s) = false := by simp; omega
  have HS := Lib.hid (show Sl w B 7 (some ⟨g, off, none⟩) (ys.length + 1) cap ((ys ++ [l]).flatMap Nt.R) by simpa using h.sl)
  have hbB := h.lt
  have hnb : ¬ blk (some ⟨g, off, none⟩) b := fun hk => by rw [blk_some] at hk; omega
  obtain ⟨i43, hi, hz0, hz1, hz2⟩ := info_parts info43
  have hroom := hlen.room7
  have hW := Lib.hid ((Frm.refl w fun _ => False).alloc (boxR n))
  have c0 := Grown.cell (boxR_get w n 0 _ rfl)
  have c2 := Grown.cell (boxR_get w n 2 _ rfl)
  have ch := Grown.cell (hW.out.cell hhd id)
  have cl := Grown.cell (hW.out.cell hlast id)
  clear h hk e1 hs
  go_enter Tryd.func12, Tryd.ntmps12
  go_wp2_with fail
  refine wp_region_grown (w.alloc (boxR n)) (by (exact Frm.refl _ _)) (by kernel_rfl) (by kernel_rfl) ?_
  repeat (go_big_quiet_step ((go_at_call 18; refine Calls.grown_of (rname_any n.k k0 k1 _))))
  refine wpQuiet_nil ?_
  intro wq hq
  have g0 := hq.cell (boxR_get w n 0 _ rfl) id
  have g1 := hq.cell (boxR_get w n 1 _ rfl) id
  have g2 := hq.cell (boxR_get w n 2 _ rfl) id
  have g3 := hq.cell (boxR_get w n 3 _ rfl) id
  have g4 := hq.cell (boxR_get w n 4 _ rfl) id
  have g5 := hq.cell (boxR_get w n 5 _ rfl) id
  have g6 := hq.cell (boxR_get w n 6 _ rfl) id
  have hw := Lib.hid (hW.out.then_ hq)
  have gh := hw.out.cell hhd id
  have gf := (hw.out.frozen (p := ⟨b, 0, none⟩) hlt id).trans hfr
  have gb : b < wq.heap.size := Nat.lt_of_lt_of_le hlt hw.out.size
  have gB : B ≤ wq.heap.size := Nat.le_trans hB0 hw.out.size
  clear c0 c2 ch cl hhd hlast hq
  go_wp2_with fail
  go_region_law (first | (refine step_append_sl _ rfl (.tmp 39) (.tmp 41) 38 rfl B 43 i43 _ 7 56 Tryd.underlying38 hi hz0 hz1 hz2 rfl (by decide) _ _ _ _ rfl ((HS.out.new_ hw.out).new_ (by (repeat (first | exact Frm.refl _ _ | apply Frm.drew | apply Frm.drewN | apply Frm.alloc)))) _ 1 1 n.R rfl (Rd.fresh_at _ 43 #[.int .i64 n.s, .int .i64 n.t, .int .i64 n.k, .int .u32 n.a, .int .i64 n.o, .int .u32 n.p, .int .u64 n.v] rfl (by simp)) (oneR n) hroom.1 hroom.2 (by simp; omega) ?_; intro A' cap' w2 hap; obtain ⟨hb2, hf2⟩ := hap_cell (by (repeat (first | exact Frm.refl _ _ | apply Frm.drew | apply Frm.drewN | apply Frm.alloc))) hap gh gf hnb))
  all_goals
    go_wp2
    go_ret
    exact ⟨rfl, added_of (by simp) H.out (hw.out.then_ (by (repeat (first | exact Frm.refl _ _ | apply Frm.drew | apply Frm.drewN | apply Frm.alloc)))) hap⟩

set_option maxHeartbeats 1000000 in
theorem radd_taken_nil (B b cap : Nat) (A : Option Addr) (n : Nt) (k0 : 0 ≤ n.k) (k1 : n.k ≤ 255) (w : World) (h : Lst Nt.R w B b A cap []) (hB0 : B ≤ w.heap.size) (hk : isK n.k = true) :
    Calls Tryd.prog 12 #[.pointer (some ⟨b, 0, none⟩), .agg #[.int .i64 n.s, .int .i64 n.t, .int .i64 n.k, .int .u32 n.a, .int .i64 n.o, .int .u32 n.p, .int .u64 n.v]] w fun e w' => e = .returned (.int .i64 0) ∧ Added Nt.R w w' B b A ([] ++ [n]) := by
  have e1 := nmI_empty n.k k0
  rw [hk] at e1
  have e1' : (nmI n.k).toList.isEmpty = false := e1
  have H := Lib.hid h
  have hlt := World.block_lt_of_cell? w _ h.head
  have hhd : w.cell? ⟨b, 0, none⟩ = some (.slice A 0 cap) := by simpa using h.head
  have hfr := h.free
  have HS := Lib.hid (show Sl w B 7 A 0 cap [] by simpa using h.sl)
  have hbB := h.lt
  have hnb : ¬ blk A b := fun hk => by have := (h.sl.ge hk).1; omega
  obtain ⟨i43, hi, hz0, hz1, hz2⟩ := info_parts info43
  have hroom : 0 + 1 ≤ maxLen ∧ (0 + 1) * 56 ≤ 140737488355328 := by unfold maxLen; omega
  have hW := Lib.hid ((Frm.refl w fun _ => False).alloc (boxR n))
  have c0 := Grown.cell (boxR_get w n 0 _ rfl)
  have c2 := Grown.cell (boxR_get w n 2 _ rfl)
  have ch := Grown.cell (hW.out.cell hhd id)
  clear h hk e1
  go_enter Tryd.func12, Tryd.ntmps12
  go_wp2_with fail
  refine wp_region_grown (w.alloc (boxR n)) (by (exact Frm.refl _ _)) (by kernel_rfl) (by kernel_rfl) ?_
  repeat (go_big_quiet_step ((go_at_call 18; refine Calls.grown_of (rname_any n.k k0 k1 _))))
  refine wpQuiet_nil ?_
  intro wq hq
  have g0 := hq.cell (boxR_get w n 0 _ rfl) id
  have g1 := hq.cell (boxR_get w n 1 _ rfl) id
  have g2 := hq.cell (boxR_get w n 2 _ rfl) id
  have g3 := hq.cell (boxR_get w n 3 _ rfl) id
  have g4 := hq.cell (boxR_get w n 4 _ rfl) id
  have g5 := hq.cell (boxR_get w n 5 _ rfl) id
  have g6 := hq.cell (boxR_get w n 6 _ rfl) id
  have hw := Lib.hid (hW.out.then_ hq)
  have gh := hw.out.cell hhd id
  have gf := (hw.out.frozen (p := ⟨b, 0, none⟩) hlt id).trans hfr
  have gb : b < wq.heap.size := Nat.lt_of_lt_of_le hlt hw.out.size
  have gB : B ≤ wq.heap.size := Nat.le_trans hB0 hw.out.size
  clear c0 c2 ch hhd hq
  go_wp2_with fail
  go_region_law (first | (refine step_append_sl _ rfl (.tmp 39) (.tmp 41) 38 rfl B 43 i43 _ 7 56 Tryd.underlying38 hi hz0 hz1 hz2 rfl (by decide) _ _ _ _ rfl ((HS.out.new_ hw.out).new_ (by (repeat (first | exact Frm.refl _ _ | apply Frm.drew | apply Frm.drewN | apply Frm.alloc)))) _ 1 1 n.R rfl (Rd.fresh_at _ 43 #[.int .i64 n.s, .int .i64 n.t, .int .i64 n.k, .int .u32 n.a, .int .i64 n.o, .int .u32 n.p, .int .u64 n.v] rfl (by simp)) (oneR n) hroom.1 hroom.2 (by simp; omega) ?_; intro A' cap' w2 hap; obtain ⟨hb2, hf2⟩ := hap_cell (by (repeat (first | exact Frm.refl _ _ | apply Frm.drew | apply Frm.drewN | apply Frm.alloc))) hap gh gf hnb))
  all_goals
    go_wp2
    go_ret
    exact ⟨rfl, added_of (by simp) H.out (hw.out.then_ (by (repeat (first | exact Frm.refl _ _ | apply Frm.drew | apply Frm.drewN | apply Frm.alloc)))) hap⟩

theorem radd_any (B b cap : Nat) (A : Option Addr) (xs : List Nt) (n : Nt) (k0 : 0 ≤ n.k) (k1 : n.k ≤ 255) (w : World) (h : Lst Nt.R w B b A cap xs) (hB0 : B ≤ w.heap.size) (hlen : Few xs.length) :
    Calls Tryd.prog 12 #[.pointer (some ⟨b, 0, none⟩), n.B] w fun e w' => e = .returned (.int .i64 (addE xs n)) ∧ Added Nt.R w w' B b A (addL xs n) := by
  cases hk : isK n.k
  · have ht := takes_kind (xs := xs) hk
    refine (radd_refused_kind B b cap A xs n k0 k1 w h hk).mono ?_
    rintro e w' ⟨rfl, h'⟩
    exact ⟨by simp [addE, ht], by simpa [addL, ht] using h'⟩
  rcases List.eq_nil_or_concat xs with rfl | ⟨ys, l, rfl⟩
  · have ht : takes [] n = true := (takes_nil n).trans hk
    refine (radd_taken_nil B b cap A n k0 k1 w h hB0 hk).mono ?_
    rintro e w' ⟨rfl, h'⟩
    exact ⟨by simp [addE, ht], by simpa [addL, ht] using h'⟩
  · rw [List.concat_eq_append] at h hlen ⊢
    by_cases hs : n.s < l.s
    · have ht : takes (ys ++ [l]) n = false := by rw [takes_last, hk]; simp [hs]
      refine (radd_refused_step B b cap A ys l n k0 k1 w h hk hs).mono ?_
      rintro e w' ⟨rfl, h'⟩
      exact ⟨by simp [addE, ht], by simpa [addL, ht] using h'⟩
    · have ht : takes (ys ++ [l]) n = true := by rw [takes_last, hk]; simp; omega
      refine (radd_taken_last B b cap A ys l n k0 k1 w h hB0 hk hs (by simpa using hlen)).mono ?_
      rintro e w' ⟨rfl, h'⟩
      exact ⟨by simp [addE, ht], by simpa [addL, ht] using h'⟩
end Go.Proofs.YtllicaibgjjidaaDoor
