import Derived.Test.YtajcijocjbakbaaDoorOwH
namespace Go.Proofs.YtajcijocjbakbaaDoor
open Go.RowKit

/-! ### an operation is done -/
def didL (U : Nat → Use) (A : Nat → Ask) (l : List (Th × Value)) (t : Int) (x : OpR) : List (Th × Value) :=
  if (A x.k.toNat).is then (if (A x.k.toNat).to_ = 0 then mdel l (t, atO U A x) else mset l (t, atO U A x) (.int .u8 (A x.k.toNat).to_)) else l
/-- The modes that operations turn to are modes. -/
def AsksOk (A : Nat → Ask) : Prop := ∀ k, k < 26 → 0 ≤ (A k).to_ ∧ (A k).to_ ≤ 3
theorem vals_del {l : List (Th × Value)} (h : ∀ p ∈ l, ∃ m : Int, p.2 = .int .u8 m ∧ 1 ≤ m ∧ m ≤ 3) (k : Th) : ∀ p ∈ mdel l k, ∃ m : Int, p.2 = .int .u8 m ∧ 1 ≤ m ∧ m ≤ 3 :=
  fun p hp => h p (List.mem_filter.1 hp).1
theorem vals_set {l : List (Th × Value)} (h : ∀ p ∈ l, ∃ m : Int, p.2 = .int .u8 m ∧ 1 ≤ m ∧ m ≤ 3) (k : Th) (m : Int) (h1 : 1 ≤ m) (h3 : m ≤ 3) : ∀ p ∈ mset l k (.int .u8 m), ∃ m : Int, p.2 = .int .u8 m ∧ 1 ≤ m ∧ m ≤ 3 := by
  intro p hp
  unfold mset at hp
  split at hp
  · obtain ⟨q, hq, rfl⟩ := List.mem_map.1 hp
    split
    · exact ⟨m, rfl, h1, h3⟩
    · exact h q hq
  · rcases List.mem_append.1 hp with hp | hp
    · exact h p hp
    · rw [List.mem_singleton] at hp
      subst hp
      exact ⟨m, rfl, h1, h3⟩
theorem Bk.turned {w w' : World} {s m : Nat} {l l' : List (Th × Value)} (h : Bk w s (some m) l) (hf : Frm w w' fun j => j = m) (hM : MpS w' thV m l') (hv : ∀ p ∈ l', ∃ m : Int, p.2 = .int .u8 m ∧ 1 ≤ m ∧ m ≤ 3) : Bk w' s (some m) l' := by
  have hne : ¬ s = m := fun e => h.ne m rfl e.symm
  exact ⟨hf.cell h.cell hne, (hf.frozen (p := ⟨s, 0, none⟩) h.lt hne).trans h.free, fun e => by (cases e), fun b e => by (injection e with e; subst e; exact hM), h.ne, hv⟩
set_option maxRecDepth 100000 in
/-- What came to an error, or a thread may not: nothing turns. -/
theorem did_no (U : Nat → Use) (A : Nat → Ask) (s : Nat) (g : Option Nat) (l : List (Th × Value)) (t : Int) (ht0 : 0 ≤ t) (ht1 : t < 64) (x : OpR) (k : Nat) (hk : x.k = k) (hk8 : k < 256) (er : Int) (hno : er ≠ 0 ∨ canO U A l t x ≠ 0) (w : World) (h : Tabs w U A) (h0 : 1 < w.heap.size) (hT : TabsOk U)
    (hb : Bk w s g l) : Calls Tryd.prog 9 #[.pointer (some ⟨s, 0, none⟩), .int .i64 t, x.V, .int .i64 er] w fun e w' => e = .returned (.bool false) ∧ Frm w w' fun _ => False := by
  have hC : ∀ F : { v : World // Frm w v fun _ => False }, Calls Tryd.prog 8 #[.pointer (some ⟨s, 0, none⟩), .int .i64 t, x.V] F.1 fun e w' => e = .returned (.int .i64 (canO U A l t x)) ∧ Frm F.1 w' fun _ => False := fun F =>
    can_any U A s g l t ht0 ht1 x k hk hk8 F.1 (h.new_ F.2) (by have := F.2.size; omega) hT (hb.new_ F.2)
  have HC := Lib.hid hC
  obtain ⟨c, hc⟩ : ∃ c, canO U A l t x = c := ⟨_, rfl⟩
  rw [hc] at HC hno
  clear hC hc h hb h0
  obtain ⟨xk, xa, xo, xt, xfl, xfa, xg⟩ := x
  have hk : xk = k := hk
  subst hk
  have k0 : (0 : Int) ≤ (k : Int) := by omega
  have k1 : (k : Int) < 256 := by omega
  by_cases he : er = 0
  · subst he
    have e1 : (c != 0) = true := by
      rcases hno with h | h
      · exact absurd rfl h
      · simpa using h
    clear hno
    go_enter Tryd.func9, Tryd.ntmps9
    go_upto_region 1 with fail
    refine at_world' ?_
    intro W hW
    have hF : Frm w W fun _ => False := by rw [hW]; exact ((Frm.refl _ _).alloc _)
    have p0 : W.cell? ⟨w.heap.size, 0, none⟩ = some (.int .u8 k) := by subst hW; go_simp
    have p1 : W.cell? ⟨w.heap.size, 1, none⟩ = some (.int .i64 xa) := by subst hW; go_simp
    have p2 : W.cell? ⟨w.heap.size, 2, none⟩ = some (.int .i64 xo) := by subst hW; go_simp
    have p3 : W.cell? ⟨w.heap.size, 3, none⟩ = some (.int .i64 xt) := by subst hW; go_simp
    have p4 : W.cell? ⟨w.heap.size, 4, none⟩ = some (.bool xfl) := by subst hW; go_simp
    have p5 : W.cell? ⟨w.heap.size, 5, none⟩ = some (.bool xfa) := by subst hW; go_simp
    have p6 : W.cell? ⟨w.heap.size, 6, none⟩ = some (.int .i64 xg) := by subst hW; go_simp
    clear hW
    go_wp2_with (go_at_call 8; refine (HC.out ⟨_, hF⟩).mono ?_; rintro e w' ⟨rfl, hf⟩)
    go_ret
    exact ⟨rfl, hF.then_ hf⟩
  · have e1 : (er != 0) = true := by simpa using he
    clear hno
    go_enter Tryd.func9, Tryd.ntmps9
    go_wp2_with fail
    go_ret
    exact ⟨rfl, (Frm.refl _ _).alloc _⟩
set_option maxRecDepth 100000 in
set_option maxHeartbeats 2000000 in
theorem did_yes (U : Nat → Use) (A : Nat → Ask) (s : Nat) (g : Option Nat) (l : List (Th × Value)) (t : Int) (ht0 : 0 ≤ t) (ht1 : t < 64) (x : OpR) (k : Nat) (hk : x.k = k) (hk26 : k < 26) (hcan : canO U A l t x = 0) (w : World) (h : Tabs w U A) (h0 : 1 < w.heap.size) (hT : TabsOk U) (hA : AsksOk A)
    (hb : Bk w s g l) : Calls Tryd.prog 9 #[.pointer (some ⟨s, 0, none⟩), .int .i64 t, x.V, .int .i64 0] w fun e w' => e = .returned (.bool true) ∧ ∃ g', Bk w' s g' (didL U A l t x) ∧ (g' = g ∨ g = none ∧ ∃ b, g' = some b ∧ w.heap.size ≤ b) ∧ Frm w w' fun j => j = s ∨ g = some j := by
  have hC : ∀ F : { v : World // Frm w v fun _ => False }, Calls Tryd.prog 8 #[.pointer (some ⟨s, 0, none⟩), .int .i64 t, x.V] F.1 fun e w' => e = .returned (.int .i64 0) ∧ Frm F.1 w' fun _ => False := fun F => by
    have := can_any U A s g l t ht0 ht1 x k hk (by omega) F.1 (h.new_ F.2) (by have := F.2.size; omega) hT (hb.new_ F.2)
    rw [hcan] at this
    exact this
  have hO : ∀ F : { v : World // Frm w v fun _ => False }, Calls Tryd.prog 17 #[.int .i64 t, x.V] F.1 fun e w' => e = .returned (.tuple #[.agg #[.bool (A k).is, .int .u8 (A k).from_, .int .u8 (A k).to_, .int .i64 (A k).e, .bool (A k).other], thV (t, atO U A x)]) ∧ Frm F.1 w' fun _ => False := fun F =>
    of_any U A x k hk hk26 t F.1 (h.new_ F.2) (by have := F.2.size; omega) hT
  have hdl : didL U A l t x = if (A k).is then (if (A k).to_ = 0 then mdel l (t, atO U A x) else mset l (t, atO U A x) (.int .u8 (A k).to_)) else l := by unfold didL; rw [hk, Int.toNat_natCast]
  rw [hdl]
  obtain ⟨ht2, ht3⟩ := hA k hk26
  obtain ⟨a, ha⟩ : ∃ a, atO U A x = a := ⟨_, rfl⟩
  rw [ha] at hO ⊢
  obtain ⟨⟨qi, qf, qt, qe, qo⟩, hu⟩ : ∃ u, A k = u := ⟨_, rfl⟩
  rw [hu] at hO ht2 ht3 ⊢
  simp only at ht2 ht3 ⊢
  have hslt := hb.lt
  have HB := Lib.hid hb
  obtain ⟨xk, xa, xo, xt, xfl, xfa, xg⟩ := x
  have hk : xk = k := hk
  subst hk
  have k0 : (0 : Int) ≤ (k : Int) := by omega
  have k1 : (k : Int) < 256 := by omega
  have HC := Lib.hid hC
  have HO := Lib.hid hO
  clear h hC h0 hT hA hO hu ha hdl hcan hb
  go_enter Tryd.func9, Tryd.ntmps9
  go_upto_region 1 with fail
  refine at_world' ?_
  intro W hW
  have hF : Frm w W fun _ => False := by rw [hW]; exact ((Frm.refl _ _).alloc _)
  have p0 : W.cell? ⟨w.heap.size, 0, none⟩ = some (.int .u8 k) := by subst hW; go_simp
  have p1 : W.cell? ⟨w.heap.size, 1, none⟩ = some (.int .i64 xa) := by subst hW; go_simp
  have p2 : W.cell? ⟨w.heap.size, 2, none⟩ = some (.int .i64 xo) := by subst hW; go_simp
  have p3 : W.cell? ⟨w.heap.size, 3, none⟩ = some (.int .i64 xt) := by subst hW; go_simp
  have p4 : W.cell? ⟨w.heap.size, 4, none⟩ = some (.bool xfl) := by subst hW; go_simp
  have p5 : W.cell? ⟨w.heap.size, 5, none⟩ = some (.bool xfa) := by subst hW; go_simp
  have p6 : W.cell? ⟨w.heap.size, 6, none⟩ = some (.int .i64 xg) := by subst hW; go_simp
  clear hW
  go_upto_region 3 with (go_at_call 8; refine (HC.out ⟨_, hF⟩).mono ?_; rintro e w' ⟨rfl, hf⟩)
  replace hF := hF.then_ hf
  replace p0 := hf.cell p0 id
  replace p1 := hf.cell p1 id
  replace p2 := hf.cell p2 id
  replace p3 := hf.cell p3 id
  replace p4 := hf.cell p4 id
  replace p5 := hf.cell p5 id
  replace p6 := hf.cell p6 id
  clear hf
  go_upto_region 7 with (go_at_call 17; refine (HO.out ⟨_, hF⟩).mono ?_; rintro e w2 ⟨rfl, hf⟩)
  refine at_world' ?_
  intro V hV
  have hG : Frm w2 V fun _ => False := by
    rw [hV]
    repeat (first | exact Frm.refl _ _ | with_reducible refine Frm.drew ?_ | with_reducible refine Frm.alloc ?_ _ | with_reducible refine Frm.setCell ?_ (fun h => absurd h (by simp)) _)
  have c0 : V.cell? ⟨w2.heap.size, 0, none⟩ = some (.bool qi) := by subst hV; go_simp
  have c2 : V.cell? ⟨w2.heap.size, 2, none⟩ = some (.int .u8 qt) := by subst hV; go_simp
  have d0 : V.cell? ⟨w2.heap.size + 1, 0, none⟩ = some (.int .i64 t) := by subst hV; go_simp
  have d1 : V.cell? ⟨w2.heap.size + 1, 1, none⟩ = some (.int .u32 a) := by subst hV; go_simp
  have hsV : V.heap.size = w2.heap.size + 2 := by subst hV; simp
  have hFV := (hF.then_ hf).then_ hG
  have hw2 : w.heap.size ≤ w2.heap.size := (hF.then_ hf).size
  have HB := Lib.hid (HB.out.new_ hFV)
  have hc := HB.out.cell
  have hfr := HB.out.free

  have HV := Lib.hid hFV
  clear hV p0 p1 p2 p3 p4 p5 p6 HC HO hf hG hFV hF
  obtain ⟨b, hbb⟩ : ∃ b, w2.heap.size = b := ⟨_, rfl⟩
  rw [hbb] at c0 c2 d0 d1 hsV hw2 ⊢
  clear hbb
  have hmn : ∀ v : World, (binOp .eql 51 (.map none) (.map none)).run Tryd.prog v = .ok (.bool true) v := fun v => by kernel_rfl
  have hms : ∀ (m : Nat) (v : World), (binOp .eql 51 (.map (some m)) (.map none)).run Tryd.prog v = .ok (.bool false) v := fun m v => by kernel_rfl
  have ht : Tryd.prog.underlying 51 = some (.map 58 44) := by kernel_rfl
  have hwV : w.heap.size ≤ V.heap.size := by omega
  have HW := Lib.hid hwV
  cases qi with
  | false =>
    go_wp2_with fail
    go_ret
    exact ⟨rfl, g, HB.out, .inl rfl, HV.out.none_ _⟩
  | true =>
    by_cases hq : qt = 0
    · subst hq
      cases g with
      | none =>
        have hd : ∀ v : World, (Builtin.delete_ #[51, 58] 0 #[.map none, .agg #[.int .i64 t, .int .u32 a]]).run Tryd.prog v = .ok (.tuple #[]) v := fun v => by
          simp [Builtin.delete_, run_underlying ht, thL.check v _ (t, a), Result.andThen]
        have hl := HB.out.nil rfl
        subst hl
        go_wp2_with fail
        go_region
        all_goals go_wp2_with fail
        all_goals go_ret
        all_goals exact ⟨rfl, none, HB.out.new_ (Frm.refl _ _).drew, .inl rfl, (HV.out.none_ _).drew⟩
      | some m =>
        obtain ⟨w4, h4, hM, hf4⟩ := ((HB.out.map m rfl).frm (Frm.refl V (fun _ => False)).drew id).delete thL (ty := 0) (k2 := 58) ht (t, a)
        have h4 : (Builtin.delete_ #[51, 58] 0 #[.map (some m), .agg #[.int .i64 t, .int .u32 a]]).run Tryd.prog V.drew = .ok (.tuple #[]) w4 := h4
        have hfin : Bk w4 s (some m) (mdel l (t, a)) := (HB.out.new_ (Frm.refl _ _).drew).turned hf4 hM (vals_del HB.out.vals _)
        have HFIN := Lib.hid hfin
        have hfw : Frm w w4 fun j => j = s ∨ m = j := ((HV.out.none_ _).drew).trans hf4 fun j _ e => .inr e.symm
        have HFW := Lib.hid hfw
        clear hM hf4 hfin hfw
        go_wp2_with fail
        go_region
        all_goals go_wp2_with fail
        all_goals go_ret
        all_goals exact ⟨rfl, some m, HFIN.out, rfl, HFW.out⟩
    · have e0 : (qt == 0) = false := by simpa using hq
      have hq1 : 1 ≤ qt := by omega
      cases g with
      | none =>
        have hl := HB.out.nil rfl
        subst hl
        obtain ⟨w4, h4, hM4, hf4⟩ := MpS.made (κ := Th) (kv := thV) ht V
        have hsV2 : s < V.heap.size := HB.out.lt
        have hc4 := hf4.cell hc id
        have hfr4 := (hf4.frozen (p := ⟨s, 0, none⟩) hsV2 id).trans hfr
        have hz4 := hM4.lt
        have hsz4 : s < w4.heap.size := by have := hf4.size; omega
        have hne : ¬ V.heap.size = s := by omega
        have hB5 : Bk (w4.setCell ⟨s, 0, none⟩ (.map (some V.heap.size))) s (some V.heap.size) [] := by
          refine ⟨World.cell?_setCell_same _ _ _ hc4, ?_, fun e => by (cases e), fun b e => ?_, fun b e => by (injection e with e; omega), fun p hp => by (cases hp)⟩
          · rw [World.frozen?_setCell]
            exact hfr4
          · injection e with e
            subst e
            exact hM4.frm (S := fun j => j = s) ((Frm.refl w4 (fun j => j = s)).setCell (p := ⟨s, 0, none⟩) (fun _ => rfl) _) hne
        have hF5 : Frm w (w4.setCell ⟨s, 0, none⟩ (.map (some V.heap.size))) fun j => j = s := ((HV.out.then_ hf4).none_ (fun j => j = s)).setCell (p := ⟨s, 0, none⟩) (fun _ => rfl) _
        obtain ⟨w6, h6, hM6, hf6⟩ := ((hB5.map _ rfl).frm (Frm.refl _ (fun _ => False)).drew id).update thL ht (t, a) (.int .u8 qt)
        have h6 : (Instr.mapUpdate 51 (.map (some V.heap.size)) (.agg #[.int .i64 t, .int .u32 a]) (.int .u8 qt)).run Tryd.prog (w4.setCell ⟨s, 0, none⟩ (.map (some V.heap.size))).drew = .ok () w6 := h6
        have hfin : Bk w6 s (some V.heap.size) (mset [] (t, a) (.int .u8 qt)) := (hB5.new_ (Frm.refl _ _).drew).turned hf6 hM6 (vals_set hB5.vals _ _ hq1 ht3)
        have HFIN := Lib.hid hfin
        have hfw : Frm w w6 fun j => j = s := hF5.drew.trans hf6 fun j hj e => by omega
        have HFW := Lib.hid hfw
        have c0' := hf4.cell c0 id
        have c2' := hf4.cell c2 id
        have d0' := hf4.cell d0 id
        have d1' := hf4.cell d1 id
        have y1 : b ≠ s := by omega
        have y2 : b + 1 ≠ s := by omega
        have y3 : s ≠ b := by omega
        have y4 : s ≠ b + 1 := by omega
        obtain ⟨b2, hb2⟩ : ∃ x, b + 1 = x := ⟨_, rfl⟩
        rw [hb2] at d0 d1 d0' d1' y2 y4 ⊢
        obtain ⟨m5, hm5⟩ : ∃ x, V.heap.size = x := ⟨_, rfl⟩
        rw [hm5] at h4 h6 HFIN HW
        clear hm5 hb2 hsV hz4 hne hwV
        clear hM4 hf4 hB5 hF5 hM6 hf6 hfin hfw
        go_wp2_with fail
        go_region
        all_goals go_wp2_with fail
        all_goals go_ret
        all_goals exact ⟨rfl, some m5, HFIN.out, .inr ⟨_, rfl, HW.out⟩, HFW.out⟩
      | some m =>
        obtain ⟨w4, h4, hM, hf4⟩ := ((HB.out.map m rfl).frm (Frm.refl V (fun _ => False)).drew id).update thL ht (t, a) (.int .u8 qt)
        have h4 : (Instr.mapUpdate 51 (.map (some m)) (.agg #[.int .i64 t, .int .u32 a]) (.int .u8 qt)).run Tryd.prog V.drew = .ok () w4 := h4
        have hfin : Bk w4 s (some m) (mset l (t, a) (.int .u8 qt)) := (HB.out.new_ (Frm.refl _ _).drew).turned hf4 hM (vals_set HB.out.vals _ _ hq1 ht3)
        have HFIN := Lib.hid hfin
        have hfw : Frm w w4 fun j => j = s ∨ m = j := ((HV.out.none_ _).drew).trans hf4 fun j _ e => .inr e.symm
        have HFW := Lib.hid hfw
        clear hM hf4 hfin hfw
        go_wp2_with fail
        go_region
        all_goals go_wp2_with fail
        all_goals go_ret
        all_goals exact ⟨rfl, some m, HFIN.out, rfl, HFW.out⟩
end Go.Proofs.YtajcijocjbakbaaDoor
